/- The walk of NestedRewinds. -/
import Derived.Test.YtllmddhahpegmaaZ0
import Derived.Deep.CutRange
namespace Go.Proofs.Ytllmddhahpegmaa
open Go.RowKit
namespace Ne

theorem neg_wrap (a : Int) (h1 : -9223372036854775808 ≤ a) (h2 : a ≤ 9223372036854775807) : wrap64 (wrap64 (-a) - 1) = -a - 1 := by
  unfold wrap64
  omega

theorem tmod_nat (a : Int) (N : Nat) (h : 0 ≤ a) (hN : 0 < N) : ∃ r : Nat, r < N ∧ a.tmod N = r := by
  refine ⟨(a % N).toNat, ?_, ?_⟩
  · have := Int.emod_lt_of_pos a (show (0 : Int) < N by omega)
    omega
  · rw [Int.tmod_eq_emod_of_nonneg h]
    have := Int.emod_nonneg a (show (N : Int) ≠ 0 by omega)
    omega

set_option maxRecDepth 100000 in
set_option maxHeartbeats 2000000 in
theorem rewinds_walk (w : World) (size : Int) (A A' : Option Addr) (c c' : Nat) (l m : List Cl) (h : CallsAt w A c l) (hm : CallsAt w A' c' m) (hit : ∀ x ∈ m, -9223372036854775808 ≤ x.items ∧ x.items ≤ 9223372036854775807) :
    Calls Try.prog 5 #[.int .i64 size, .slice A l.length c, .slice A' m.length c'] w fun e w' => e = .returned (.bool true) ∧ Below w.heap.size w w' := by
  have HMade := Lib.hid (made_calls w size A c l h)
  clear h
  obtain ⟨hm1, hm2, hm3⟩ := hm
  have HM := Lib.hid hm3
  have HIT := Lib.hid hit
  clear hm3 hit
  unfold maxLen at hm2
  generalize l.length = L at *
  generalize hn : m.length = n at *
  have HN := Lib.hid hn
  clear hn
  go_enter Try.func5, Try.ntmps5
  go_wp2_with (go_at_call 9; fail)
  refine HMade.out.mono ?_
  rintro e w1 (⟨rfl, hb1⟩ | ⟨_, _, _, t, own1, M, rfl, H1, _⟩)
  · go_wp2_with (go_at_call 10; refine (awake_ok _).mono ?_; rintro e w2 ⟨rfl, hb2⟩)
    go_ret
    exact ⟨rfl, hb1.trans (hb2.mono hb1.size)⟩
  by_cases h60 : 60 < n
  · go_wp2_with (go_at_call 10; refine (awake_ok _).mono ?_; rintro e w2 ⟨rfl, hb2⟩)
    go_ret
    exact ⟨rfl, H1.below.trans (hb2.mono H1.below.size)⟩
  go_wp2_with (go_at_call 11; fail)
  refine (kp_save H1).mono ?_
  rintro e w2 ⟨⟨A5, c5, rfl, hS⟩, H2, _⟩
  have hsl : (save M).length = M.length := by simp [save]
  have hw2 := H2.below.size
  have r8 : (w2.alloc (.cells #[.slice A5 (save M).length c5] 28)).cell? ⟨w2.heap.size, 0, none⟩ = some (.slice A5 (save M).length c5) := by
    rw [World.cell?_alloc_at _ _ _ _ rfl]; rfl
  have H3 : Held w (w2.alloc (.cells #[.slice A5 (save M).length c5] 28)) own1 t M := H2.of_below ((Below.refl _ _).alloc (Nat.le_refl _) _)
  have hS3 : StK (fun k => own1 k = none ∧ k < w2.heap.size + 1) (w2.alloc (.cells #[.slice A5 (save M).length c5] 28)) A5 c5 (save M) := by
    refine hS.keep fun k hk hlt => ⟨heap_alloc_old _ _ hlt, hk.1, by omega⟩
  have h8 : own1 w2.heap.size = none := by
    cases e : own1 w2.heap.size with
    | none => rfl
    | some v => exact absurd (H2.fresh _ (by rw [e]; simp)) (by omega)
  have hsz : (w2.alloc (.cells #[.slice A5 (save M).length c5] 28)).heap.size = w2.heap.size + 1 := by simp
  rw [hsl] at r8 H3 hS3 hsz
  have HS := Lib.hid (And.intro H3 (And.intro hS3 h8))
  clear H1 H2 H3 hS3 hS h8
  go_upto_if 33 with (fail)
  go_cut [9] from 31 to 37 (fun v wx => (∃ y : Int, v = .int .i64 y) ∧ wx = w2.alloc (.cells #[.slice A5 M.length c5] 28))
  case first =>
    by_cases h0 : n = 0
    · subst h0
      go_wp2_with (fail)
      go_meet
      exact ⟨⟨_, rfl⟩, rfl⟩
    · obtain ⟨x, hx⟩ : ∃ x, m[0]? = some x := ⟨_, List.getElem?_eq_getElem (by have := HN.out; omega)⟩
      obtain ⟨g, o, rfl, hg, _, _, _, k1, _⟩ := HM.out 0 x hx
      have k1 := (HS.out.1.below.cell (p := ⟨g, _, none⟩) hg).trans k1
      simp only [Nat.zero_mul, Nat.add_zero] at k1
      have hp : (0 : Int) < n := by omega
      go_wp2_with (fail)
      go_meet
      exact ⟨⟨_, rfl⟩, rfl⟩
  case rest =>
    obtain ⟨⟨y, rfl⟩, rfl⟩ := hcut
    generalize (w2.alloc (.cells #[.slice A5 M.length c5] 28)) = W6 at *
    have hd : decide ((60 : Int) < n) = false := decide_eq_false (by omega)
    rw [hd]
    have HD := Lib.hid hd
    clear hd
    cases hf : find M y with
    | none =>
      have e1 : mark M y = (0, 4) := by simp [mark, hf]
      clear hf
      go_wp2_with (go_at_call 19; fail)
      refine (kp_mark HS.out.1 _ e1).mono ?_
      rintro e w3 ⟨own3, rfl, H3, _⟩
      go_wp2_with (go_at_call 10; fail)
      refine (awake_ok _).mono ?_
      rintro e w4 ⟨rfl, hb4⟩
      go_wp2
      go_ret
      exact ⟨rfl, H3.below.trans (hb4.mono H3.below.size)⟩
    | some q =>
      obtain ⟨hy0, hi⟩ := find_some hf
      obtain ⟨k, rfl⟩ := Int.eq_ofNat_of_zero_le hy0
      rw [Int.toNat_natCast] at hi
      have e1 : mark M k = ((q.l.length : Int), 0) := by simp [mark, hf]
      have hql := (HS.out.1.good.node k q hi).len
      have HI := Lib.hid hi
      clear hf hi hy0
      go_wp2_with (go_at_call 19; fail)
      refine (kp_mark HS.out.1 _ e1).mono ?_
      rintro e w3 ⟨own3, rfl, H3, hK3⟩
      have hOld : Old W6.heap.size own1 W6 own3 w3 := Old.keeps ⟨Nat.le_refl _, fun _ _ h => ⟨rfl, h⟩⟩ hK3
      have HO := Lib.hid (And.intro H3 hOld)
      clear H3 hK3 hOld e1
      go_wp2_with fail
      go_loopw [12, 13, 14, 15, 16, 17] (fun fr i _ _ _ _ wr => ∃ (j : Nat) (own : Nat → Option Nat) (M' : Tr) (fs : List Int), j ≤ n ∧ i = .int .i64 j ∧ Held w wr own t M' ∧ Old W6.heap.size own1 W6 own wr ∧ Since M M' k q ∧ fs.length ≤ j ∧
        FrRow W6.heap.size own wr fr fs ∧ ∀ f ∈ fs, 0 ≤ f ∧ f < 64 ∧ ¬ Opn M f.toNat) (fun _ i _ _ _ _ _ => n - (intOf i).toNat)
      case atStart => exact ⟨0, own3, M, [], Nat.zero_le _, rfl, HO.out.1, HO.out.2, Since.start HS.out.1.good HI.out, Nat.le_refl _, FrRow.nil _ _ _, by simp⟩
      case round =>
        obtain ⟨j, own, M', fs, hj, rfl, H, hOld, hSi, hfl, hFr, hfs⟩ := hrel
        obtain ⟨A2, c2, hu⟩ : ∃ A2 c2, u12 = .slice A2 fs.length c2 := by
          rcases hFr.row.2 with ⟨e1, e2⟩ | ⟨g, cap, _, e1, _⟩
          · exact ⟨none, 0, by rw [e1, e2]⟩
          · exact ⟨_, _, e1⟩
        subst hu
        by_cases hjl : j < n
        · obtain ⟨x, hx⟩ : ∃ x, m[j]? = some x := ⟨_, List.getElem?_eq_getElem (by have := HN.out; omega)⟩
          obtain ⟨g, o, rfl, hg, y0, y1, k0, k1, k2, k3, k4⟩ := HM.out j x hx
          have k0 := (H.below.cell (p := ⟨g, _, none⟩) hg).trans k0
          have k1 := (H.below.cell (p := ⟨g, _, none⟩) hg).trans k1
          have k2 := (H.below.cell (p := ⟨g, _, none⟩) hg).trans k2
          have k3 := (H.below.cell (p := ⟨g, _, none⟩) hg).trans k3
          have k4 := (H.below.cell (p := ⟨g, _, none⟩) hg).trans k4
          have HR := Lib.hid (And.intro H (And.intro hOld (And.intro hSi (And.intro hFr hfs))))
          have HX := Lib.hid hx
          clear H hOld hSi hFr hfs hx
          have W7 : (wr.alloc (.cells #[.int .u8 x.what, .int .i64 x.node, .int .i64 x.items, .int .i64 x.size, .int .i64 x.align] 49)).heap.size = wr.heap.size + 1 := by simp
          go_upto_region 17 with (fail)
          go_cut [14, 15, 66] from 47 to 126 (fun a b v wx => a = .pointer (some ⟨wr.heap.size, 0, none⟩) ∧ b = .int .i64 k ∧ (∃ d : Bool, v = .bool d ∧ (d = true → 0 < fs.length)) ∧ wx = wr.alloc (.cells #[.int .u8 x.what, .int .i64 x.node, .int .i64 x.items, .int .i64 x.size, .int .i64 x.align] 49))
          case first =>
            go_wp2_with (fail)
            all_goals go_meet
            all_goals exact ⟨rfl, rfl, ⟨_, rfl, fun e => by first | omega | cases e⟩, rfl⟩
          case rest =>
            obtain ⟨rfl, rfl, ⟨dd, rfl, hdd⟩, rfl⟩ := hcut
            have hc2 : c2 ≤ maxLen ∧ fs.length ≤ c2 := by
              rcases HR.out.2.2.2.1.row.2 with ⟨e1, e2⟩ | ⟨g, cap, _, e1, _, _, e3, e4, _⟩
              · injection e1 with e0 e1 e2
                subst e2
                exact ⟨Nat.zero_le _, by omega⟩
              · injection e1 with e0 e1 e2
                subst e2
                exact ⟨e4, e3⟩
            go_upto_if 66 with (fail)
            go_cut [15] from 47 to 126 (fun v wx => (∃ z : Int, v = .int .i64 z ∧ 0 ≤ z ∧ (z.toNat = k ∧ z = k ∨ z ≠ k ∧ ¬ Opn M z.toNat)) ∧ wx = wr.alloc (.cells #[.int .u8 x.what, .int .i64 x.node, .int .i64 x.items, .int .i64 x.size, .int .i64 x.align] 49))
            case first =>
              cases dd with
              | false =>
                go_wp2_with (fail)
                go_meet
                exact ⟨⟨k, rfl, by omega, .inl ⟨by omega, rfl⟩⟩, rfl⟩
              | true =>
                have hp := hdd rfl
                obtain ⟨hx1, hx2⟩ := HIT.out x (List.mem_of_getElem? HX.out)
                have hw := neg_wrap x.items hx1 hx2
                have hrow := HR.out.2.2.2.1.row
                have hfs := HR.out.2.2.2.2
                have key : ∀ r : Nat, r < fs.length → ∃ g5 f, A2 = some ⟨g5, 0, none⟩ ∧ g5 < wr.heap.size ∧ wr.cell? ⟨g5, r, none⟩ = some (.int .i64 f) ∧ f ∈ fs := by
                  intro r hr
                  rcases hrow.2 with ⟨e1, e2⟩ | ⟨g5, cap, _, e1, _, e2, _⟩
                  · omega
                  · injection e1 with e0 e1 e3
                    subst e0 e3
                    have hc := hrow.cellAt r (by omega)
                    rw [List.getElem?_map, List.getElem?_eq_getElem hr] at hc
                    exact ⟨g5, fs[r], rfl, lt_of_heap e2, hc, List.getElem_mem hr⟩
                have HK := Lib.hid key
                have HFS := Lib.hid hfs
                clear hrow hfs key
                by_cases hneg : x.items < 0
                · obtain ⟨r, hr, hre⟩ := tmod_nat (-x.items - 1) fs.length (by omega) hp
                  obtain ⟨g5, f, rfl, hg5, hc5, hf5⟩ := HK.out r hr
                  obtain ⟨f1, f2, f3⟩ := HFS.out f hf5
                  have hlt : x.items < -x.items - 1 := by omega
                  have hfk : f ≠ k := fun e => by subst e; exact f3 ⟨q, by simpa using HI.out⟩
                  clear hneg
                  go_wp2_with (fail)
                  all_goals go_meet
                  all_goals exact ⟨⟨f, rfl, f1, .inr ⟨hfk, f3⟩⟩, rfl⟩
                · obtain ⟨r, hr, hre⟩ := tmod_nat x.items fs.length (by omega) hp
                  obtain ⟨g5, f, rfl, hg5, hc5, hf5⟩ := HK.out r hr
                  obtain ⟨f1, f2, f3⟩ := HFS.out f hf5
                  have hlt : -x.items - 1 ≤ x.items := by omega
                  have hfk : f ≠ k := fun e => by subst e; exact f3 ⟨q, by simpa using HI.out⟩
                  clear hneg
                  go_wp2_with (fail)
                  all_goals go_meet
                  all_goals exact ⟨⟨f, rfl, f1, .inr ⟨hfk, f3⟩⟩, rfl⟩
            case rest =>
              obtain ⟨⟨z, rfl, hz0, hz⟩, rfl⟩ := hcut
              have hb7 : Below wr.heap.size wr (wr.alloc (.cells #[.int .u8 x.what, .int .i64 x.node, .int .i64 x.items, .int .i64 x.size, .int .i64 x.align] 49)) := (Below.refl _ _).alloc (Nat.le_refl _) _
              have c0 : (wr.alloc (.cells #[.int .u8 x.what, .int .i64 x.node, .int .i64 x.items, .int .i64 x.size, .int .i64 x.align] 49)).cell? ⟨wr.heap.size, 0, none⟩ = some (.int .u8 x.what) := by rw [World.cell?_alloc_at _ _ _ _ rfl]; rfl
              have c2' : (wr.alloc (.cells #[.int .u8 x.what, .int .i64 x.node, .int .i64 x.items, .int .i64 x.size, .int .i64 x.align] 49)).cell? ⟨wr.heap.size, 2, none⟩ = some (.int .i64 x.items) := by rw [World.cell?_alloc_at _ _ _ _ rfl]; rfl
              have c3 : (wr.alloc (.cells #[.int .u8 x.what, .int .i64 x.node, .int .i64 x.items, .int .i64 x.size, .int .i64 x.align] 49)).cell? ⟨wr.heap.size, 3, none⟩ = some (.int .i64 x.size) := by rw [World.cell?_alloc_at _ _ _ _ rfl]; rfl
              have c4 : (wr.alloc (.cells #[.int .u8 x.what, .int .i64 x.node, .int .i64 x.items, .int .i64 x.size, .int .i64 x.align] 49)).cell? ⟨wr.heap.size, 4, none⟩ = some (.int .i64 x.align) := by rw [World.cell?_alloc_at _ _ _ _ rfl]; rfl
              have hwr : wr.heap.size < (wr.alloc (.cells #[.int .u8 x.what, .int .i64 x.node, .int .i64 x.items, .int .i64 x.size, .int .i64 x.align] 49)).heap.size := by simp
              generalize (wr.alloc (.cells #[.int .u8 x.what, .int .i64 x.node, .int .i64 x.items, .int .i64 x.size, .int .i64 x.align] 49)) = W8 at *
              have hK7 : Keeps own own wr W8 := .of_below own hb7
              have H8 : Held w W8 own t M' := HR.out.1.of_below hb7
              have hO8 := HR.out.2.1.keeps hK7
              have hF8 := HR.out.2.2.2.1.keeps hK7
              have hS8 := HR.out.2.2.1
              have hzk : z.toNat = k ∨ ¬ Opn M z.toNat := hz.imp And.left And.right
              have HR8 := Lib.hid (And.intro H8 (And.intro hO8 (And.intro hS8 (And.intro hF8 (And.intro HR.out.2.2.2.2 hzk)))))
              clear hb7 hK7 H8 hO8 hF8 hS8 hzk HR
              have hcase : (x.what % 8 = 3 ∨ x.what % 8 = 4) ∨ x.what % 8 = 5 ∨ x.what % 8 = 6 ∨ (x.what % 8 ≠ 3 ∧ x.what % 8 ≠ 4 ∧ x.what % 8 ≠ 5 ∧ x.what % 8 ≠ 6) := by omega
              rcases hcase with hc | hc | hc | ⟨hc1, hc2', hc3, hc4⟩
              · rcases hc with hc | hc
                · have b3 : (x.what % 8 == 3) = true := by rw [beq_iff_eq]; exact hc
                  clear hc
                  obtain ⟨M2, v1, v2, he⟩ : ∃ M2 a b, begin_ M' z x.size x.align = (M2, a, b) := ⟨_, _, _, rfl⟩
                  have hS2 := HR8.out.2.2.1.begin_ z x.size x.align HR8.out.2.2.2.2.2
                  rw [he] at hS2
                  have HS2 := Lib.hid (And.intro he hS2)
                  clear he hS2
                  go_wp2_with (go_at_call 22; fail)
                  refine (kp_begin HR8.out.1 _ _ _ HS2.out.1).mono ?_
                  rintro e w9 ⟨own9, rfl, H9, hK9⟩
                  have hF9 := HR8.out.2.2.2.1.keeps hK9
                  have H9 := Lib.hid (And.intro H9 (And.intro (HR8.out.2.1.keeps hK9) hF9))
                  clear hK9
                  by_cases hv : v2 = 0
                  · have hrow := hF9.row
                    clear hF9
                    have hbv : (v2 == 0) = true := by rw [beq_iff_eq]; exact hv
                    obtain ⟨hv1, hv2, hv3⟩ := HS2.out.2.2 hv
                    obtain ⟨i0, z0, hi0, hz0, hz1, hz2, hz3⟩ := info_open int_info
                    clear hv
                    go_wp2_with (first |
                      (at_builtin; refine wpList_append_lies _ rfl (.tmp 105) (.tmp 107) _ rfl 0 3 i0 z0 1 8 Try.underlying36 hi0 hz0 hz1 hz2 hz3 (by omega) (.slice A2 fs.length c2) fs.length (fs.map fun f => .int .i64 f) rfl (hrow.alloc _) ⟨w9.heap.size, 0, none⟩ 1 1 [.int .i64 v1] rfl rfl (World.news_of_block (heap_alloc_new _ _)) (by simp [Value.oneCell']) (by omega) (by unfold maxLen; omega) (by omega) (Nat.zero_le _) (w9.heap.size + 1) (by simp) ?_
                       intro gg capg wg hown1 hgrow1 hat1 hlt1))
                    go_roundw
                    case rel =>
                      obtain ⟨d1, d2, d3⟩ := begun H9.out.1 H9.out.2.1 H9.out.2.2 HS.out.1.below.size hgrow1 hown1 hat1
                      refine ⟨j + 1, own9, M2, fs ++ [v1], by omega, by go_num, d1, d2, HS2.out.2.1, by simp; omega, by simpa using d3, ?_⟩
                      intro f hf
                      rcases List.mem_append.1 hf with hf | hf
                      · exact HR8.out.2.2.2.2.1 f hf
                      · rw [List.mem_singleton] at hf
                        subst hf
                        exact ⟨hv1, hv2, hv3⟩
                    case measure => simp [intOf]; omega
                  · have hbv : (v2 == 0) = false := by rw [beq_eq_false_iff_ne]; exact hv
                    clear hv hF9
                    go_wp2
                    go_roundw
                    case rel => exact ⟨j + 1, own9, M2, fs, by omega, by go_num, H9.out.1, H9.out.2.1, HS2.out.2.1, by omega, H9.out.2.2, HR8.out.2.2.2.2.1⟩
                    case measure => simp [intOf]; omega
                · have b3 : (x.what % 8 == 3) = false := by rw [beq_eq_false_iff_ne]; omega
                  have b4 : (x.what % 8 == 4) = true := by rw [beq_iff_eq]; exact hc
                  clear hc
                  obtain ⟨M2, v1, v2, he⟩ : ∃ M2 a b, begin_ M' z x.size x.align = (M2, a, b) := ⟨_, _, _, rfl⟩
                  have hS2 := HR8.out.2.2.1.begin_ z x.size x.align HR8.out.2.2.2.2.2
                  rw [he] at hS2
                  have HS2 := Lib.hid (And.intro he hS2)
                  clear he hS2
                  go_wp2_with (go_at_call 22; fail)
                  refine (kp_begin HR8.out.1 _ _ _ HS2.out.1).mono ?_
                  rintro e w9 ⟨own9, rfl, H9, hK9⟩
                  have hF9 := HR8.out.2.2.2.1.keeps hK9
                  have H9 := Lib.hid (And.intro H9 (And.intro (HR8.out.2.1.keeps hK9) hF9))
                  clear hK9
                  by_cases hv : v2 = 0
                  · have hrow := hF9.row
                    clear hF9
                    have hbv : (v2 == 0) = true := by rw [beq_iff_eq]; exact hv
                    obtain ⟨hv1, hv2, hv3⟩ := HS2.out.2.2 hv
                    obtain ⟨i0, z0, hi0, hz0, hz1, hz2, hz3⟩ := info_open int_info
                    clear hv
                    go_wp2_with (first |
                      (at_builtin; refine wpList_append_lies _ rfl (.tmp 105) (.tmp 107) _ rfl 0 3 i0 z0 1 8 Try.underlying36 hi0 hz0 hz1 hz2 hz3 (by omega) (.slice A2 fs.length c2) fs.length (fs.map fun f => .int .i64 f) rfl (hrow.alloc _) ⟨w9.heap.size, 0, none⟩ 1 1 [.int .i64 v1] rfl rfl (World.news_of_block (heap_alloc_new _ _)) (by simp [Value.oneCell']) (by omega) (by unfold maxLen; omega) (by omega) (Nat.zero_le _) (w9.heap.size + 1) (by simp) ?_
                       intro gg capg wg hown1 hgrow1 hat1 hlt1))
                    go_roundw
                    case rel =>
                      obtain ⟨d1, d2, d3⟩ := begun H9.out.1 H9.out.2.1 H9.out.2.2 HS.out.1.below.size hgrow1 hown1 hat1
                      refine ⟨j + 1, own9, M2, fs ++ [v1], by omega, by go_num, d1, d2, HS2.out.2.1, by simp; omega, by simpa using d3, ?_⟩
                      intro f hf
                      rcases List.mem_append.1 hf with hf | hf
                      · exact HR8.out.2.2.2.2.1 f hf
                      · rw [List.mem_singleton] at hf
                        subst hf
                        exact ⟨hv1, hv2, hv3⟩
                    case measure => simp [intOf]; omega
                  · have hbv : (v2 == 0) = false := by rw [beq_eq_false_iff_ne]; exact hv
                    clear hv hF9
                    go_wp2
                    go_roundw
                    case rel => exact ⟨j + 1, own9, M2, fs, by omega, by go_num, H9.out.1, H9.out.2.1, HS2.out.2.1, by omega, H9.out.2.2, HR8.out.2.2.2.2.1⟩
                    case measure => simp [intOf]; omega
              · rcases hz with ⟨_, rfl⟩ | ⟨hne, hfr⟩
                · have b3 : (x.what % 8 == 3) = false := by rw [beq_eq_false_iff_ne]; omega
                  have b4 : (x.what % 8 == 4) = false := by rw [beq_eq_false_iff_ne]; omega
                  have b5 : (x.what % 8 == 5) = true := by rw [beq_iff_eq]; exact hc
                  clear hc
                  go_wp2
                  go_roundw
                  case rel => exact ⟨j + 1, own, M', fs, by omega, by go_num, HR8.out.1, HR8.out.2.1, HR8.out.2.2.1, by omega, HR8.out.2.2.2.1, HR8.out.2.2.2.2.1⟩
                  case measure => simp [intOf]; omega
                · have b3 : (x.what % 8 == 3) = false := by rw [beq_eq_false_iff_ne]; omega
                  have b4 : (x.what % 8 == 4) = false := by rw [beq_eq_false_iff_ne]; omega
                  have b5 : (x.what % 8 == 5) = true := by rw [beq_iff_eq]; exact hc
                  have hzb : (z == (k : Int)) = false := by rw [beq_eq_false_iff_ne]; exact hne
                  clear hc
                  obtain ⟨F, hF⟩ := HR8.out.1.good.big
                  obtain ⟨M2, v1, he⟩ : ∃ M2 a, stopAt M' F z = (M2, a) := ⟨_, _, rfl⟩
                  have hS2 := HR8.out.2.2.1.stop HS.out.1.good HI.out hF z hfr
                  rw [he] at hS2
                  have HS2 := Lib.hid (And.intro he (And.intro hS2 hF))
                  clear he hS2 hF hne hfr
                  go_wp2_with (go_at_call 18; fail)
                  refine (kp_stop HR8.out.1 _ HS2.out.2.2 HS2.out.1).mono ?_
                  rintro e w9 ⟨own9, rfl, H9, hK9⟩
                  have H9 := Lib.hid (And.intro H9 hK9)
                  go_wp2
                  go_roundw
                  case rel => exact ⟨j + 1, own9, M2, fs, by omega, by go_num, H9.out.1, HR8.out.2.1.keeps H9.out.2, HS2.out.2.1, by omega, HR8.out.2.2.2.1.keeps H9.out.2, HR8.out.2.2.2.2.1⟩
                  case measure => simp [intOf]; omega
              · rcases hz with ⟨_, rfl⟩ | ⟨hne, hfr⟩
                · have b3 : (x.what % 8 == 3) = false := by rw [beq_eq_false_iff_ne]; omega
                  have b4 : (x.what % 8 == 4) = false := by rw [beq_eq_false_iff_ne]; omega
                  have b5 : (x.what % 8 == 5) = false := by rw [beq_eq_false_iff_ne]; omega
                  have b6 : (x.what % 8 == 6) = true := by rw [beq_iff_eq]; exact hc
                  clear hc
                  go_wp2
                  go_roundw
                  case rel => exact ⟨j + 1, own, M', fs, by omega, by go_num, HR8.out.1, HR8.out.2.1, HR8.out.2.2.1, by omega, HR8.out.2.2.2.1, HR8.out.2.2.2.2.1⟩
                  case measure => simp [intOf]; omega
                · have b3 : (x.what % 8 == 3) = false := by rw [beq_eq_false_iff_ne]; omega
                  have b4 : (x.what % 8 == 4) = false := by rw [beq_eq_false_iff_ne]; omega
                  have b5 : (x.what % 8 == 5) = false := by rw [beq_eq_false_iff_ne]; omega
                  have b6 : (x.what % 8 == 6) = true := by rw [beq_iff_eq]; exact hc
                  have hzb : (z == (k : Int)) = false := by rw [beq_eq_false_iff_ne]; exact hne
                  clear hc
                  obtain ⟨F, hF⟩ := HR8.out.1.good.big
                  obtain ⟨M2, v1, he⟩ : ∃ M2 a, rewindTo M' F z x.items = (M2, a) := ⟨_, _, rfl⟩
                  have hS2 := HR8.out.2.2.1.rewind HS.out.1.good HI.out hF z x.items hfr
                  rw [he] at hS2
                  have HS2 := Lib.hid (And.intro he (And.intro hS2 hF))
                  clear he hS2 hF hne hfr
                  go_wp2_with (go_at_call 20; fail)
                  refine (kp_rewind HR8.out.1 _ _ HS2.out.2.2 HS2.out.1).mono ?_
                  rintro e w9 ⟨own9, rfl, H9, hK9⟩
                  have H9 := Lib.hid (And.intro H9 hK9)
                  go_wp2
                  go_roundw
                  case rel => exact ⟨j + 1, own9, M2, fs, by omega, by go_num, H9.out.1, HR8.out.2.1.keeps H9.out.2, HS2.out.2.1, by omega, HR8.out.2.2.2.1.keeps H9.out.2, HR8.out.2.2.2.2.1⟩
                  case measure => simp [intOf]; omega
              · have b3 : (x.what % 8 == 3) = false := by rw [beq_eq_false_iff_ne]; omega
                have b4 : (x.what % 8 == 4) = false := by rw [beq_eq_false_iff_ne]; omega
                have b5 : (x.what % 8 == 5) = false := by rw [beq_eq_false_iff_ne]; omega
                have b6 : (x.what % 8 == 6) = false := by rw [beq_eq_false_iff_ne]; omega
                clear hc1 hc2' hc3 hc4
                obtain ⟨M2, v1, v2, he⟩ : ∃ M2 a b, alloc M' z x.size x.align = (M2, a, b) := ⟨_, _, _, rfl⟩
                have hS2 := HR8.out.2.2.1.alloc z x.size x.align HR8.out.2.2.2.2.2
                rw [he] at hS2
                have HS2 := Lib.hid (And.intro he hS2)
                clear he hS2
                go_wp2_with (go_at_call 16; fail)
                refine (kp_alloc HR8.out.1 _ _ _ HS2.out.1).mono ?_
                rintro e w9 ⟨own9, rfl, H9, hK9⟩
                have H9 := Lib.hid (And.intro H9 hK9)
                go_wp2
                go_roundw
                case rel => exact ⟨j + 1, own9, M2, fs, by omega, by go_num, H9.out.1, HR8.out.2.1.keeps H9.out.2, HS2.out.2, by omega, HR8.out.2.2.2.1.keeps H9.out.2, HR8.out.2.2.2.2.1⟩
                case measure => simp [intOf]; omega
        · obtain rfl : j = n := by omega
          obtain ⟨F, hF⟩ := H.good.big
          have hback := hSi.back HS.out.1.good HI.out hF
          have HC8 : ∀ own' w', Old W6.heap.size own1 W6 own' w' → w'.cell? ⟨w2.heap.size, 0, none⟩ = some (.slice A5 M.length c5) := fun own' w' ho => (World.cell?_of_block (a := ⟨w2.heap.size, 0, none⟩) (ho.2 _ (by omega) HS.out.2.2).1).trans r8
          have hc8 := HC8 own wr hOld
          have HRW : ∀ W, Below wr.heap.size wr W → Hid (Calls Try.prog 20 #[.pointer (some ⟨t, 0, none⟩), .int .i64 k, .int .i64 q.l.length] W fun e w' => ∃ own', e = .returned (.int .i64 0) ∧ (Held w w' own' t M ∧ Old W6.heap.size own1 W6 own' w')) := fun W hb => Lib.hid ((kp_rewind (H.of_below hb) k q.l.length hF hback).mono fun e w' ⟨own', he, h1, h2⟩ => ⟨own', he, h1, (hOld.keeps (.of_below own hb)).keeps h2⟩)
          have HC8 := fun own' w' ho => Lib.hid (HC8 own' w' ho)
          have HSV : ∀ W own', Held w W own' t M ∧ Old W6.heap.size own1 W6 own' W → ∀ W', Below W.heap.size W W' → Hid (Calls Try.prog 11 #[.pointer (some ⟨t, 0, none⟩)] W' fun e w' => ∃ A c, e = .returned (.agg #[.slice A M.length c]) ∧ (StK (fun k => own' k = none ∧ w.heap.size ≤ k) w' A c (save M) ∧ Held w w' own' t M ∧ Old W6.heap.size own1 W6 own' w')) := fun W own' h W' hb => Lib.hid ((kp_save (h.1.of_below hb)).mono fun e w' ⟨⟨A, c, he, h1⟩, h2, h3⟩ => ⟨A, c, by rw [← hsl]; exact he, h1, h2, (h.2.keeps (.of_below own' hb)).keeps (.of_below own' h3)⟩)
          have HSM : ∀ W own' A c, (StK (fun k => own' k = none ∧ w.heap.size ≤ k) W A c (save M) ∧ Held w W own' t M ∧ Old W6.heap.size own1 W6 own' W) → ∀ W', Below W.heap.size W W' → Hid (Calls Try.prog 23 #[.agg #[.slice A M.length c], .agg #[.slice A5 M.length c5]] W' fun e w' => e = .returned (.bool true) ∧ (Below w.heap.size w w' ∧ w2.heap.size < w'.heap.size ∧ w'.cell? ⟨w2.heap.size, 0, none⟩ = some (.slice A5 M.length c5))) := fun W own' A c h W' hb => Lib.hid (by
            have h6 : StK (fun k => own1 k = none ∧ k < w2.heap.size + 1) W' A5 c5 (save M) := HS.out.2.1.keep fun k hk hl => ⟨(hb.block k (by have := h.2.2.1; omega)).trans (h.2.2.2 k hl hk.1).1, hk⟩
            have hw : w2.heap.size < W.heap.size := by have := h.2.2.1; omega
            rw [← hsl]
            refine (same_ok W' _ _ A A5 c c5 (save M) (h.1.below hb) h6).mono fun e w' ⟨he, h2⟩ => ⟨he, h.2.1.below.trans ((hb.trans (h2.mono hb.size)).mono h.2.1.below.size), Nat.lt_of_lt_of_le hw (Nat.le_trans hb.size h2.size), ?_⟩
            rw [hsl]
            exact ((hb.trans (h2.mono hb.size)).cell (p := ⟨w2.heap.size, 0, none⟩) hw).trans (HC8 own' W h.2.2).out)
          have HAW : ∀ W, (Below w.heap.size w W ∧ w2.heap.size < W.heap.size ∧ W.cell? ⟨w2.heap.size, 0, none⟩ = some (.slice A5 M.length c5)) → ∀ W', Below W.heap.size W W' → Hid (Calls Try.prog 10 #[] W' fun e w' => e = .returned (.bool true) ∧ (Below w.heap.size w w' ∧ w'.cell? ⟨w2.heap.size, 0, none⟩ = some (.slice A5 M.length c5))) := fun W h W' hb => Lib.hid ((awake_ok W').mono fun e w' ⟨he, h2⟩ => ⟨he, h.1.trans ((hb.trans (h2.mono hb.size)).mono h.1.size), ((hb.trans (h2.mono hb.size)).cell (p := ⟨w2.heap.size, 0, none⟩) h.2.1).trans h.2.2⟩)
          clear H hOld hSi hFr hfs hF hback
          go_wp2
          go_region_held3 (fun w' => w'.cell? ⟨w2.heap.size, 0, none⟩ = some (.slice A5 M.length c5)) (go_keep)
            (first
              | (go_at_call 20; refine (HRW _ ?_).out.mono ?_; (first | exact Below.refl _ _ | exact (Below.refl _ _).drew); rintro e w9 ⟨own9, rfl, H9⟩; have hc9 := (HC8 own9 w9 H9.2).out)
              | (go_at_call 11; refine (HSV _ _ H9 _ ?_).out.mono ?_; (first | exact Below.refl _ _ | exact (Below.refl _ _).drew); rintro e w10 ⟨A10, c10, rfl, H10⟩; have hc10 := (HC8 own9 w10 H10.2.2).out)
              | (go_at_call 23; refine (HSM _ _ _ _ H10 _ ?_).out.mono ?_; (first | exact Below.refl _ _ | exact (Below.refl _ _).drew); rintro e w11 ⟨rfl, H11⟩; have hc11 := H11.2.2)
              | (go_at_call 10; refine (HAW _ H11 _ ?_).out.mono ?_; (first | exact Below.refl _ _ | exact (Below.refl _ _).drew); rintro e w12 ⟨rfl, H12, hc12⟩))
          go_wp2
          go_ret
          exact ⟨rfl, by first | exact H12 | exact H12.drew⟩
end Ne
end Go.Proofs.Ytllmddhahpegmaa
