/- The walk of NestedEnds. The reference: Copy. The reference: shut. -/
import Derived.Test.YtllmddhahpegmaaM13
import Derived.Test.YtllmddhahpegmaaM19
import Derived.Test.YtllmddhahpegmaaM9
import Derived.Test.YtllmddhahpegmaaM10
import Derived.Deep.CutRange
import Derived.Deep.RegionHeld3
import Derived.Test.YtllmddhahpegmaaM16
namespace Go.Proofs.Ytllmddhahpegmaa
open Go.RowKit
namespace Ne

theorem row_keep {w w' : World} {B e s n : Nat} {v : Value} {xs : List Value} (h : w.ownsRow B e s v n xs) (hk : ∀ g, B ≤ g → g < w.heap.size → w'.heap[g]? = w.heap[g]?) : w'.ownsRow B e s v n xs := by
  refine ⟨h.1, ?_⟩
  rcases h.2 with hn | ⟨g, cap, cur, rfl, hB, hgg, rest⟩
  · exact .inl hn
  · exact .inr ⟨g, cap, cur, rfl, hB, by rw [hk g hB (lt_of_heap hgg)]; exact hgg, rest⟩

set_option maxRecDepth 100000 in
set_option maxHeartbeats 4000000 in
theorem ends_walk (w : World) (size k : Int) (A : Option Addr) (c : Nat) (l : List Cl) (h : CallsAt w A c l) :
    Calls Try.prog 7 #[.int .i64 size, .slice A l.length c, .int .i64 k] w fun e w' => e = .returned (.bool true) ∧ Below w.heap.size w w' := by
  have HMade := Lib.hid (made_calls w size A c l h)
  clear h
  generalize l.length = L0 at *
  go_enter Try.func7, Try.ntmps7
  go_wp2_with (go_at_call 9; fail)
  refine HMade.out.mono ?_
  clear HMade
  rintro e w1 (⟨rfl, hb1⟩ | ⟨_, _, _, t, own1, M, rfl, H1, _⟩)
  · go_wp2_with (go_at_call 10; refine (awake_ok _).mono ?_; rintro e w2 ⟨rfl, hb2⟩)
    go_ret
    exact ⟨rfl, hb1.trans (hb2.mono hb1.size)⟩
  go_wp2_with (go_at_call 11; fail)
  refine (kp_save H1).mono ?_
  rintro e w2 ⟨⟨A5, c5, rfl, hS⟩, H2, _⟩
  have hsl : (save M).length = M.length := by simp [save]
  have hw2 := H2.below.size
  have r8 : (w2.alloc (.cells #[.slice A5 (save M).length c5] 28)).cell? ⟨w2.heap.size, 0, none⟩ = some (.slice A5 (save M).length c5) := by
    rw [World.cell?_alloc_at _ _ _ _ rfl]; rfl
  have H3 : Held w (w2.alloc (.cells #[.slice A5 (save M).length c5] 28)) own1 t M := H2.of_below ((Below.refl _ _).alloc (Nat.le_refl _) _)
  have hS3 : StK (fun k => own1 k = none ∧ k < w2.heap.size + 1) (w2.alloc (.cells #[.slice A5 (save M).length c5] 28)) A5 c5 (save M) := by
    refine hS.keep fun k hk hlt => ⟨heap_alloc_old _ _ hlt, hk.1, by omega⟩
  have h8 : own1 w2.heap.size = none := by
    cases e : own1 w2.heap.size with
    | none => rfl
    | some v => exact absurd (H2.fresh _ (by rw [e]; simp)) (by omega)
  have hsz : (w2.alloc (.cells #[.slice A5 (save M).length c5] 28)).heap.size = w2.heap.size + 1 := by simp
  rw [hsl] at r8 H3 hS3 hsz
  have HS := Lib.hid (And.intro H3 (And.intro hS3 h8))
  clear H1 H2 H3 hS3 hS h8
  go_wp2_with (go_at_call 24; fail)
  generalize (w2.alloc (.cells #[.slice A5 M.length c5] 28)) = w3 at *
  refine (below_ok w3 own1 t M k HS.out.1.tree HS.out.1.fresh HS.out.1.good).mono ?_
  rintro e w4 ⟨⟨A9, c9, L, rfl, hU, hrow4⟩, hb4⟩
  have H4 : Held w w4 own1 t M := HS.out.1.of_below hb4
  obtain ⟨F, hF⟩ := H4.good.big
  obtain ⟨M', v, hst⟩ : ∃ M' v, stopAt M F k = (M', v) := ⟨_, _, rfl⟩
  have HP := Lib.hid (And.intro hU (And.intro hF (And.intro hst (And.intro H4 hrow4))))
  have HB4 := Lib.hid hb4
  clear hU hF hst H4 hrow4 hb4
  go_wp2_with (go_at_call 18; fail)
  refine (kp_stop HP.out.2.2.2.1 k HP.out.2.1 HP.out.2.2.1).mono ?_
  rintro e w5 ⟨own5, rfl, H5, hK5⟩
  have H5 := Lib.hid (And.intro H5 hK5)
  clear hK5
  go_wp2_with (go_at_call 11; fail)
  refine (kp_save H5.out.1).mono ?_
  rintro e w6 ⟨⟨A6, c6, rfl, hS6⟩, H6, hb6⟩
  have hsl6 : (save M').length = M'.length := by simp [save]
  have H6 := Lib.hid (And.intro hS6 (And.intro H6 hb6))
  clear hS6 hb6
  have hs34 := HB4.out.size
  have hs45 := H5.out.2.size
  have hs56 := H6.out.2.2.size
  have hBK : ∀ x, x < w3.heap.size → own1 x = none → (w6.alloc (.cells #[.slice A6 M'.length c6] 28)).heap[x]? = w3.heap[x]? := fun x h1 h2 =>
    (heap_alloc_old _ _ (by omega)).trans ((H6.out.2.2.block x (by omega)).trans ((H5.out.2.block x (by omega) h2).trans (HB4.out.block x h1)))
  have q8 : (w6.alloc (.cells #[.slice A6 M'.length c6] 28)).cell? ⟨w2.heap.size, 0, none⟩ = some (.slice A5 M.length c5) := (World.cell?_of_block (a := ⟨w2.heap.size, 0, none⟩) (hBK w2.heap.size (by omega) HS.out.2.2)).trans r8
  have q11 : (w6.alloc (.cells #[.slice A6 M'.length c6] 28)).cell? ⟨w6.heap.size, 0, none⟩ = some (.slice A6 M'.length c6) := by rw [World.cell?_alloc_at _ _ _ _ rfl]; rfl
  have hrow : (w6.alloc (.cells #[.slice A6 M'.length c6] 28)).ownsRow w3.heap.size 3 1 (.slice A9 L.length c9) L.length (nints L) := row_keep HP.out.2.2.2.2 fun g h1 h2 => by
    refine (heap_alloc_old _ _ (by omega)).trans ((H6.out.2.2.block g (by omega)).trans (H5.out.2.block g h2 ?_))
    cases e : own1 g with
    | none => rfl
    | some z => exact absurd (HS.out.1.fresh g (by rw [e]; simp)) (by omega)
  have hS8 : StK (fun _ => True) (w6.alloc (.cells #[.slice A6 M'.length c6] 28)) A5 c5 (save M) := HS.out.2.1.keep fun x h1 h2 => ⟨hBK x h2 h1.1, trivial⟩
  have hS11 : StK (fun _ => True) (w6.alloc (.cells #[.slice A6 M'.length c6] 28)) A6 c6 (save M') := H6.out.1.keep fun x _ h2 => ⟨heap_alloc_old _ _ h2, trivial⟩
  have hBW : Below w.heap.size w (w6.alloc (.cells #[.slice A6 M'.length c6] 28)) := H6.out.2.1.below.trans (((Below.refl _ _).alloc (Nat.le_refl _) _).mono H6.out.2.1.below.size)
  have hszW : (w6.alloc (.cells #[.slice A6 M'.length c6] 28)).heap.size = w6.heap.size + 1 := by simp
  have hUM := HP.out.1
  have hG := HP.out.2.2.2.1.good
  have hL64 := hUM.len
  have hM64 := hG.len
  have hM'64 := H5.out.1.good.len
  have HX := Lib.hid (And.intro hS8 (And.intro hS11 (And.intro hBW (And.intro hUM (And.intro hG (And.intro HP.out.2.1 (And.intro HP.out.2.2.1 hrow)))))))
  have hle := hrow.1
  have hl9 := row_le hrow
  have hw26 : w2.heap.size < w6.heap.size := by omega
  clear hS8 hS11 hBW hUM hG HP HS HB4 H5 H6 hBK hrow hs34 hs45 hs56 r8
  by_cases hv : v = 0
  · subst hv
    go_wp2_with fail
    generalize (w6.alloc (.cells #[.slice A6 M'.length c6] 28)) = W at *
    have hc5 := HX.out.1.1
    have hc5m := HX.out.1.2.1
    have hc6 := HX.out.2.1.1
    have hc6m := HX.out.2.1.2.1
    have hc9 := hl9.1
    have hc9m := hl9.2
    rw [hsl] at hc5
    rw [hsl6] at hc6
    unfold maxLen at hc5m hc6m hc9m
    clear hl9 hle
    go_loopw [12, 13, 14, 15, 16, 17, 18] (fun i _ _ _ _ _ _ wr => ∃ j : Nat, j ≤ M.length ∧ i = .int .i64 j ∧ Below W.heap.size W wr) (fun i _ _ _ _ _ _ _ => M.length - (intOf i).toNat)
    case atStart => exact ⟨0, Nat.zero_le _, rfl, Below.refl _ _⟩
    case round =>
      obtain ⟨j, hj, rfl, hb⟩ := hrel
      have y8 := (hb.cell (p := ⟨w2.heap.size, 0, none⟩) (show w2.heap.size < W.heap.size by omega)).trans q8
      have y11 := (hb.cell (p := ⟨w6.heap.size, 0, none⟩) (show w6.heap.size < W.heap.size by omega)).trans q11
      have hbs := hb.size
      have HB := Lib.hid hb
      clear hb q8 q11
      by_cases hjl : j < M.length
      · obtain ⟨o, ho⟩ : ∃ o, M[j]? = some o := ⟨_, List.getElem?_eq_getElem hjl⟩
        obtain ⟨g, of, B, cB, rfl, _, ⟨cur, hcur⟩, p0, p1, p2, p3, p4, hRA⟩ := HX.out.1.2.2 j (saveNode o) (by rw [save, List.getElem?_map, ho]; rfl)
        have hgl := lt_of_heap hcur
        replace p0 := (HB.out.cell (p := ⟨g, _, none⟩) hgl).trans p0
        replace p1 := (HB.out.cell (p := ⟨g, _, none⟩) hgl).trans p1
        replace p2 := (HB.out.cell (p := ⟨g, _, none⟩) hgl).trans p2
        replace p3 := (HB.out.cell (p := ⟨g, _, none⟩) hgl).trans p3
        replace p4 := (HB.out.cell (p := ⟨g, _, none⟩) hgl).trans p4
        clear hcur
        cases o with
        | none =>
          replace p4 : wr.cell? ⟨g, of + j * 5 + 4, none⟩ = some (.bool true) := p4
          clear ho hRA p0 p1 p2 p3
          go_wp2
          go_roundw
          case rel => exact ⟨j + 1, by omega, by go_num, HB.out⟩
          case measure => simp [intOf]; omega
        | some a =>
          replace p0 : wr.cell? ⟨g, of + j * 5, none⟩ = some (.int .i64 a.p) := p0
          replace p1 : wr.cell? ⟨g, of + j * 5 + 1, none⟩ = some (.int .i64 a.a) := p1
          replace p2 : wr.cell? ⟨g, of + j * 5 + 2, none⟩ = some (.int .i64 a.s) := p2
          replace p3 : wr.cell? ⟨g, of + j * 5 + 3, none⟩ = some (.slice B a.l.length cB) := p3
          replace p4 : wr.cell? ⟨g, of + j * 5 + 4, none⟩ = some (.bool false) := p4
          replace hRA : RowK (fun _ => True) W B cB a.l := hRA
          have law := ends_law HX.out.2.2.2.2.1 HX.out.2.2.2.2.2.1 HX.out.2.2.2.2.2.2.1 HX.out.2.2.2.1 j a ho
          have HL := Lib.hid (And.intro law hRA)
          clear ho hRA law
          go_wp2_with fail
          go_loop [13, 14] (fun b i => ∃ m : Nat, m ≤ L.length ∧ i = .int .i64 m ∧ ∃ bb : Bool, b = .bool bb ∧ (bb = true ↔ j ∈ L.take m)) (fun _ i => L.length - (intOf i).toNat)
          case atStart => exact ⟨0, Nat.zero_le _, rfl, false, rfl, by simp⟩
          case round =>
            obtain ⟨m, hm, rfl, bb, rfl, hbb⟩ := hrel
            have HBB := Lib.hid hbb
            clear hbb
            by_cases hml : m < L.length
            · obtain ⟨a', ha'⟩ : ∃ a', L[m]? = some a' := ⟨_, List.getElem?_eq_getElem hml⟩
              obtain ⟨g9, rfl, _, hg9, hc⟩ := nints_cell HX.out.2.2.2.2.2.2.2 rfl m a' ha'
              have hc := (HB.out.cell (p := ⟨g9, _, none⟩) hg9).trans hc
              have htk : L.take (m + 1) = L.take m ++ [a'] := by rw [List.take_add_one, ha']; rfl
              have HTK := Lib.hid htk
              clear ha' htk
              cases bb with
              | true =>
                go_wp2
                go_round
                case rel => exact ⟨m + 1, by omega, by go_num, true, rfl, by rw [HTK.out]; simp; exact .inl (HBB.out.1 rfl)⟩
                case measure => simp [intOf]; omega
              | false =>
                by_cases e : a' = j
                · have hb' : ((a' : Int) == (j : Int)) = true := by rw [beq_iff_eq]; omega
                  have HE := Lib.hid e
                  clear e
                  go_wp2
                  go_round
                  case rel => exact ⟨m + 1, by omega, by go_num, true, rfl, by rw [HTK.out]; simp; exact .inr HE.out.symm⟩
                  case measure => simp [intOf]; omega
                · have hb' : ((a' : Int) == (j : Int)) = false := by rw [beq_eq_false_iff_ne]; omega
                  have HE := Lib.hid e
                  clear e
                  go_wp2
                  go_round
                  case rel =>
                    refine ⟨m + 1, by omega, by go_num, false, rfl, ?_⟩
                    rw [HTK.out]
                    constructor
                    · intro x; cases x
                    · intro x
                      rcases List.mem_append.1 x with x | x
                      · exact HBB.out.2 x
                      · rw [List.mem_singleton] at x; exact absurd x.symm HE.out
                  case measure => simp [intOf]; omega
            · obtain rfl : m = L.length := by omega
              have hbb : bb = true ↔ j ∈ L := by have := HBB.out; rwa [List.take_length] at this
              clear HBB hml
              rcases HL.out.1 with ⟨hin, hno⟩ | ⟨hnin, b, hbM, e1, e2, e3, e4, e5⟩
              · obtain rfl : bb = true := hbb.2 hin
                clear hbb hin
                by_cases hj' : j < M'.length
                · obtain ⟨o', ho'⟩ : ∃ o', M'[j]? = some o' := ⟨_, List.getElem?_eq_getElem hj'⟩
                  have : o' = none := by
                    cases o' with
                    | none => rfl
                    | some z => exact absurd ho' (hno z)
                  subst this
                  obtain ⟨g6, of6, B6, cB6, rfl, _, ⟨cur6, hcur6⟩, _, _, _, _, z4, _⟩ := HX.out.2.1.2.2 j (saveNode none) (by rw [save, List.getElem?_map, ho']; rfl)
                  have hg6 := lt_of_heap hcur6
                  replace z4 : wr.cell? ⟨g6, of6 + j * 5 + 4, none⟩ = some (.bool true) := (HB.out.cell (p := ⟨g6, _, none⟩) hg6).trans z4
                  clear ho' hcur6 hno
                  go_wp2
                  go_roundw
                  case rel => exact ⟨j + 1, by omega, by go_num, HB.out⟩
                  case measure => simp [intOf]; omega
                · clear hno
                  go_wp2
                  go_roundw
                  case rel => exact ⟨j + 1, by omega, by go_num, HB.out⟩
                  case measure => simp [intOf]; omega
              · obtain rfl : bb = false := by
                  cases bb with
                  | false => rfl
                  | true => exact absurd (hbb.1 rfl) hnin
                clear hbb hnin
                obtain ⟨g6, of6, B6, cB6, rfl, _, ⟨cur6, hcur6⟩, z0, z1, z2, z3, z4, hRB⟩ := HX.out.2.1.2.2 j (saveNode (some b)) (by rw [save, List.getElem?_map, hbM]; rfl)
                have hg6 := lt_of_heap hcur6
                have hj' := (List.getElem?_eq_some_iff.1 hbM).1
                replace z0 : wr.cell? ⟨g6, of6 + j * 5, none⟩ = some (.int .i64 a.p) := by rw [← e3]; exact (HB.out.cell (p := ⟨g6, _, none⟩) hg6).trans z0
                replace z1 : wr.cell? ⟨g6, of6 + j * 5 + 1, none⟩ = some (.int .i64 a.a) := by rw [← e1]; exact (HB.out.cell (p := ⟨g6, _, none⟩) hg6).trans z1
                replace z2 : wr.cell? ⟨g6, of6 + j * 5 + 2, none⟩ = some (.int .i64 a.s) := by rw [← e2]; exact (HB.out.cell (p := ⟨g6, _, none⟩) hg6).trans z2
                replace z3 : wr.cell? ⟨g6, of6 + j * 5 + 3, none⟩ = some (.slice B6 b.l.length cB6) := (HB.out.cell (p := ⟨g6, _, none⟩) hg6).trans z3
                replace z4 : wr.cell? ⟨g6, of6 + j * 5 + 4, none⟩ = some (.bool false) := (HB.out.cell (p := ⟨g6, _, none⟩) hg6).trans z4
                replace hRB : RowK (fun _ => True) W B6 cB6 b.l := hRB
                have HL := Lib.hid (And.intro e5 (And.intro HL.out.2 hRB))
                clear hcur6 hbM e1 e2 e3 e5 hRB
                have hk0 := stop_pos HX.out.2.2.2.2.2.2.1
                have n8 := World.new_ne wr _ y8
                have n11 := World.new_ne wr _ y11
                have np := World.new_ne wr _ p0
                have nq := World.new_ne wr _ z0
                have hs8 : w2.heap.size < wr.heap.size := by omega
                have hs11 : w6.heap.size < wr.heap.size := by omega
                have hgw : g < wr.heap.size := by omega
                have hg6w : g6 < wr.heap.size := by omega
                generalize a.p = xp at *
                generalize a.a = xa at *
                generalize a.s = xs at *
                generalize hla : a.l = la at *
                generalize hlb : b.l = lb at *
                clear hla hlb
                go_upto_region 22 with (fail)
                go_cut [15, 16] from 56 to 213 (fun u v wx => ∃ g1 g2, u = .pointer (some ⟨g1, 0, none⟩) ∧ v = .pointer (some ⟨g2, 0, none⟩) ∧ Below wr.heap.size wr wx ∧ g1 < wx.heap.size ∧ g2 < wx.heap.size ∧
                  wx.cell? ⟨g1, 0, none⟩ = some (.int .i64 xp) ∧ wx.cell? ⟨g1, 1, none⟩ = some (.int .i64 xa) ∧ wx.cell? ⟨g1, 2, none⟩ = some (.int .i64 xs) ∧ wx.cell? ⟨g1, 3, none⟩ = some (.slice B la.length cB) ∧ wx.cell? ⟨g1, 4, none⟩ = some (.bool false) ∧
                  wx.cell? ⟨g2, 0, none⟩ = some (.int .i64 xp) ∧ wx.cell? ⟨g2, 1, none⟩ = some (.int .i64 xa) ∧ wx.cell? ⟨g2, 2, none⟩ = some (.int .i64 xs) ∧ wx.cell? ⟨g2, 3, none⟩ = some (.slice B6 lb.length cB6) ∧ wx.cell? ⟨g2, 4, none⟩ = some (.bool false))
                case first =>
                  go_region_held3 (fun w' => w'.cell? ⟨w2.heap.size, 0, none⟩ = some (.slice (some ⟨g, of, none⟩) M.length c5) ∧ w'.cell? ⟨w6.heap.size, 0, none⟩ = some (.slice (some ⟨g6, of6, none⟩) M'.length c6) ∧
                    w'.cell? ⟨g, of + j * 5, none⟩ = some (.int .i64 xp) ∧ w'.cell? ⟨g, of + j * 5 + 1, none⟩ = some (.int .i64 xa) ∧ w'.cell? ⟨g, of + j * 5 + 2, none⟩ = some (.int .i64 xs) ∧ w'.cell? ⟨g, of + j * 5 + 3, none⟩ = some (.slice B la.length cB) ∧ w'.cell? ⟨g, of + j * 5 + 4, none⟩ = some (.bool false) ∧
                    w'.cell? ⟨g6, of6 + j * 5, none⟩ = some (.int .i64 xp) ∧ w'.cell? ⟨g6, of6 + j * 5 + 1, none⟩ = some (.int .i64 xa) ∧ w'.cell? ⟨g6, of6 + j * 5 + 2, none⟩ = some (.int .i64 xs) ∧ w'.cell? ⟨g6, of6 + j * 5 + 3, none⟩ = some (.slice B6 lb.length cB6) ∧ w'.cell? ⟨g6, of6 + j * 5 + 4, none⟩ = some (.bool false)) (go_keep) (fail)
                  all_goals (go_wp2_with fail)
                  all_goals go_meet
                  all_goals
                    refine ⟨_, _, rfl, rfl, ?_, by simp <;> omega, by simp <;> omega, ?_, ?_, ?_, ?_, ?_, ?_, ?_, ?_, ?_, ?_⟩
                    · first
                        | exact (((Below.refl _ _).alloc (Nat.le_refl _) _).alloc (by simp) _).drew
                        | exact (((Below.refl _ _).drew.alloc (Nat.le_refl _) _).alloc (by simp) _)
                    all_goals first
                      | (rw [World.cell?_drew, World.cell?_alloc_lt _ _ _ (by simp), World.cell?_alloc_at _ _ _ _ rfl]; rfl)
                      | (rw [World.cell?_drew, World.cell?_alloc_at _ _ _ _ (by simp)]; rfl)
                case rest =>
                  obtain ⟨g1, g2, rfl, rfl, hbx, hg1, hg2, a0, a1, a2, a3, a4, b0, b1, b2, b3, b4⟩ := hcut
                  have HBX := Lib.hid hbx
                  have hbxs := hbx.size
                  clear hbx p0 p1 p2 p3 p4 z0 z1 z2 z3 z4 y8 y11 n8 n11 np nq
                  go_wp2_with fail
                  have hRl := HL.out.2.1.1
                  have hRm := HL.out.2.1.2.1
                  have hRl' := HL.out.2.2.1
                  have hRm' := HL.out.2.2.2.1
                  unfold maxLen at hRm hRm'
                  go_loopw [17, 18] (fun i _ wr' => ∃ m : Nat, m ≤ la.length ∧ i = .int .i64 m ∧ Below wc.heap.size wc wr') (fun i _ _ => la.length - (intOf i).toNat)
                  case atStart => exact ⟨0, Nat.zero_le _, rfl, Below.refl _ _⟩
                  case round =>
                    obtain ⟨m, hm, rfl, hb'⟩ := hrel
                    have a3 := (hb'.cell (p := ⟨g1, _, none⟩) hg1).trans a3
                    have b3 := (hb'.cell (p := ⟨g2, _, none⟩) hg2).trans b3
                    have HQ := Lib.hid hb'
                    have hbs' := hb'.size
                    clear hb'
                    by_cases hml : m < la.length
                    · obtain ⟨x, hx⟩ : ∃ x, la[m]? = some x := ⟨_, List.getElem?_eq_getElem hml⟩
                      obtain ⟨g3, o3, rfl, _, ⟨cu3, hcu3⟩, s0, s1, s2⟩ := HL.out.2.1.2.2 m x hx
                      have hg3 := lt_of_heap hcu3
                      have hbz := Lib.hid (HB.out.trans ((HBX.out.trans (HQ.out.mono (by omega))).mono (by omega)))
                      replace s0 := (hbz.out.cell (p := ⟨g3, _, none⟩) hg3).trans s0
                      replace s1 := (hbz.out.cell (p := ⟨g3, _, none⟩) hg3).trans s1
                      replace s2 := (hbz.out.cell (p := ⟨g3, _, none⟩) hg3).trans s2
                      have HIS := Lib.hid (HL.out.1 m x hx)
                      clear hcu3 hx
                      by_cases hmb : m < lb.length
                      · obtain ⟨y, hy⟩ : ∃ y, lb[m]? = some y := ⟨_, List.getElem?_eq_getElem hmb⟩
                        obtain ⟨g4, o4, rfl, _, ⟨cu4, hcu4⟩, t0, t1, t2⟩ := HL.out.2.2.2.2 m y hy
                        have hg4 := lt_of_heap hcu4
                        replace t0 := (hbz.out.cell (p := ⟨g4, _, none⟩) hg4).trans t0
                        replace t1 := (hbz.out.cell (p := ⟨g4, _, none⟩) hg4).trans t1
                        replace t2 := (hbz.out.cell (p := ⟨g4, _, none⟩) hg4).trans t2
                        have hd1 : decide (m < lb.length) = true := decide_eq_true hmb
                        have i1 : (0 : Int) ≤ (m : Int) := by omega
                        have i2 : (m : Int) < (lb.length : Int) := by omega
                        have i3 : (m : Int) < (la.length : Int) := by omega
                        rcases HIS.out.1 y hy with ⟨rfl, hne⟩ | ⟨hxk, ea, es, ec⟩
                        · have hb1 : (y.c == k) = false := by rw [beq_eq_false_iff_ne]; exact hne
                          clear hcu4 hy hne
                          generalize y.a = ya at *
                          generalize y.s = ys at *
                          generalize y.c = yc at *
                          go_wp2_with fail
                          go_quiet (fail)
                          go_wp2
                          go_roundw
                          case rel => exact ⟨m + 1, by omega, by go_num, below_drewN HQ.out _⟩
                          case measure => simp [intOf]; omega
                        · rw [ea] at t0
                          rw [es] at t1
                          rw [ec] at t2
                          rw [hxk] at s2
                          have hb1 : (k == -2) = false := by rw [beq_eq_false_iff_ne]; omega
                          have hb2 : (k == k) = true := by simp
                          clear hcu4 hy hxk ea es ec
                          generalize x.a = ya at *
                          generalize x.s = ys at *
                          go_wp2_with fail
                          go_quiet (fail)
                          go_wp2
                          go_roundw
                          case rel => exact ⟨m + 1, by omega, by go_num, below_drewN HQ.out _⟩
                          case measure => simp [intOf]; omega
                      · have hd1 : decide (m < lb.length) = false := decide_eq_false hmb
                        have i1 : (0 : Int) ≤ (m : Int) := by omega
                        have i3 : (m : Int) < (la.length : Int) := by omega
                        rcases HIS.out.2 (by omega) with hxk | hxh
                        · rw [hxk] at s2
                          clear hxk
                          go_wp2_with fail
                          go_quiet (fail)
                          go_wp2
                          go_roundw
                          case rel => exact ⟨m + 1, by omega, by go_num, below_drewN HQ.out _⟩
                          case measure => simp [intOf]; omega
                        · rw [hxh] at s2
                          have hb1 : ((-2 : Int) == k) = false := by rw [beq_eq_false_iff_ne]; omega
                          clear hxh
                          go_wp2_with fail
                          go_quiet (fail)
                          go_wp2
                          go_roundw
                          case rel => exact ⟨m + 1, by omega, by go_num, below_drewN HQ.out _⟩
                          case measure => simp [intOf]; omega
                    · obtain rfl : m = la.length := by omega
                      go_wp2
                      go_roundw
                      case rel => exact ⟨j + 1, by omega, by go_num, HB.out.trans ((HBX.out.trans (HQ.out.mono (by omega))).mono (by omega))⟩
                      case measure => simp [intOf]; omega
      · obtain rfl : j = M.length := by omega
        go_wp2_with (go_at_call 10; refine (awake_ok _).mono ?_; rintro e w8 ⟨rfl, hb8⟩)
        go_ret
        exact ⟨rfl, HX.out.2.2.1.trans ((HB.out.trans (hb8.mono HB.out.size)).mono HX.out.2.2.1.size)⟩
  · have hbv : (v != 0) = true := by simpa using hv
    obtain ⟨hM, hor⟩ := stop_err HX.out.2.2.2.2.1 HX.out.2.2.2.2.2.2.1 hv HX.out.2.2.2.1
    subst hM
    have HSame : Hid (Calls Try.prog 23 #[.agg #[.slice A5 M'.length c5], .agg #[.slice A6 M'.length c6]] (w6.alloc (.cells #[.slice A6 M'.length c6] 28)) fun e w' => e = .returned (.bool true) ∧ Below (w6.alloc (.cells #[.slice A6 M'.length c6] 28)).heap.size (w6.alloc (.cells #[.slice A6 M'.length c6] 28)) w') := Lib.hid (by
      have := same_ok (w6.alloc (.cells #[.slice A6 M'.length c6] 28)) (fun _ => True) (fun _ => True) A5 A6 c5 c6 (save M') HX.out.1 HX.out.2.1
      rw [hsl] at this
      exact this)
    rcases hor with rfl | ⟨rfl, rfl⟩
    · clear hv
      go_wp2_with (first
        | (go_at_call 23; refine HSame.out.mono ?_; rintro e w7 ⟨rfl, hb7⟩; have HB7 := Lib.hid hb7; clear hb7)
        | (go_at_call 10; refine (awake_ok _).mono ?_; rintro e w8 ⟨rfl, hb8⟩))
      go_ret
      exact ⟨rfl, HX.out.2.2.1.trans ((HB7.out.trans (hb8.mono HB7.out.size)).mono HX.out.2.2.1.size)⟩
    · clear hv
      by_cases hk0 : k = 0
      · have hkb : (k == 0) = true := by simpa using hk0
        clear hk0
        go_wp2_with (first
          | (go_at_call 23; refine HSame.out.mono ?_; rintro e w7 ⟨rfl, hb7⟩; have HB7 := Lib.hid hb7; clear hb7)
          | (go_at_call 10; refine (awake_ok _).mono ?_; rintro e w8 ⟨rfl, hb8⟩))
        go_ret
        exact ⟨rfl, HX.out.2.2.1.trans ((HB7.out.trans (hb8.mono HB7.out.size)).mono HX.out.2.2.1.size)⟩
      · have hkb : (k == 0) = false := by simpa using hk0
        clear hk0
        go_wp2_with (first
          | (go_at_call 23; refine HSame.out.mono ?_; rintro e w7 ⟨rfl, hb7⟩; have HB7 := Lib.hid hb7; clear hb7)
          | (go_at_call 10; refine (awake_ok _).mono ?_; rintro e w8 ⟨rfl, hb8⟩))
        go_ret
        exact ⟨rfl, HX.out.2.2.1.trans ((HB7.out.trans (hb8.mono HB7.out.size)).mono HX.out.2.2.1.size)⟩
end Ne
end Go.Proofs.Ytllmddhahpegmaa
namespace Go.Proofs.Ytllmddhahpegmaa
open Go.RowKit
namespace Ne

/-- What has been copied so far. -/
structure Part (B : Nat) (w : World) (s : List SN) (v : Value) (zs : List SZ) : Prop where
  map : zs.map (·.x) = s
  row : w.ownsRow (B + 3) 35 5 v zs.length (szcells zs)
  rows : ∀ (i : Nat) (z : SZ), zs[i]? = some z → w.ownsRow (B + 3) 54 3 z.val z.x.l.length (icells z.x.l)
  apart : ∀ (i j : Nat) (a b : SZ), i ≠ j → zs[i]? = some a → zs[j]? = some b → ∀ k, a.blk = some k → b.blk ≠ some k

theorem Part.cop {B : Nat} {w : World} {s : List SN} {v : Value} {zs : List SZ} (h : Part B w s v zs) (hp : 0 < zs.length) : ∃ g cap cur, v = .slice (some ⟨g, 0, none⟩) zs.length cap ∧ Cop (fun k => B ≤ k) w g cap cur zs := by
  rcases h.row.2 with ⟨_, h2⟩ | ⟨g, cap, cur, h1, hb, hg, hlc, hcm, hcs, htake⟩
  · omega
  · refine ⟨g, cap, cur, h1, ?_⟩
    refine ⟨by show B ≤ g; omega, hg, hcs, hlc, hcm, fun i z hz => ?_, fun i z hz => ?_, fun i z b hz hb' => ?_, h.apart⟩
    · have hj : i < zs.length := (List.getElem?_eq_some_iff.1 hz).1
      have hcell : ∀ m u, m < 5 → (szcells zs)[i * 5 + m]? = some u → cur[i * 5 + m]? = some u := by
        intro m u hm hu
        rw [← htake, List.getElem?_take, if_pos (by omega)] at hu
        simpa using hu
      obtain ⟨k0, k1, k2, k3, k4⟩ := szcells_get zs i z hz
      exact ⟨hcell 0 _ (by omega) k0, hcell 1 _ (by omega) k1, hcell 2 _ (by omega) k2, hcell 3 _ (by omega) k3, hcell 4 _ (by omega) k4⟩
    · have := h.rows i z hz
      refine ⟨this.1, this.2.imp_right fun ⟨g, cap, cur, a, b, r⟩ => ⟨g, cap, cur, a, Nat.zero_le _, r⟩⟩
    · have := ((h.rows i z hz).lt b hb').1
      show B ≤ b
      omega

theorem snoc_get {α : Type} {l : List α} {x z : α} {i : Nat} (h : (l ++ [x])[i]? = some z) : (i < l.length ∧ l[i]? = some z) ∨ (i = l.length ∧ z = x) := by
  rcases Nat.lt_or_ge i l.length with hi | hi
  · rw [List.getElem?_append_left hi] at h
    exact .inl ⟨hi, h⟩
  · rw [List.getElem?_append_right hi] at h
    have : i - l.length = 0 := by
      cases e : i - l.length with
      | zero => rfl
      | succ m => rw [e] at h; simp at h
    rw [this] at h
    simp at h
    exact .inr ⟨by omega, h.symm⟩

/-- One arena more is copied. -/
theorem Part.more {B : Nat} {wr W5 w7 : World} {s : List SN} {v v7 : Value} {ys : List SZ} {z : SZ} (h : Part B wr s v ys)
    (h7 : w7.ownsRow (B + 3) 35 5 v7 (ys.length + 1) (szcells ys ++ z.cells)) (hk : ∀ k, B + 3 ≤ k → k < wr.heap.size → v.ownBlock ≠ some k → w7.heap[k]? = wr.heap[k]?)
    (hn : w7.ownsRow (wr.heap.size + 1) 54 3 z.val z.x.l.length (icells z.x.l)) (hB : B + 3 ≤ wr.heap.size) : Part B w7 (s ++ [z.x]) v7 (ys ++ [z]) := by
  have hty : ∀ (i : Nat) (y : SZ), ys[i]? = some y → ∀ k, y.blk = some k → v.ownBlock ≠ some k := fun i y hy k hk hv => by
    have h1 := h.rows i y hy
    rcases h1.2 with ⟨e, _⟩ | ⟨g1, cap1, cur1, e1, _, hg1, _⟩
    · unfold SZ.blk at hk; rw [e] at hk; cases hk
    · have e2 : g1 = k := by unfold SZ.blk at hk; rw [e1] at hk; simpa [Value.ownBlock] using hk
      subst e2
      rcases h.row.2 with ⟨e, _⟩ | ⟨g2, cap2, cur2, e3, _, hg2, _⟩
      · rw [e] at hv; cases hv
      · have e4 : g2 = g1 := by rw [e3] at hv; simpa [Value.ownBlock] using hv
        subst e4
        rw [hg1] at hg2
        simp at hg2
  refine ⟨by rw [List.map_append, h.map]; rfl, ?_, fun i y hy => ?_, fun i j a b hne ha hb k hak hbk => ?_⟩
  · have e1 : (ys ++ [z]).length = ys.length + 1 := by simp
    have e2 : szcells (ys ++ [z]) = szcells ys ++ z.cells := by simp [szcells]
    rw [e1, e2]
    exact h7
  · rcases snoc_get hy with ⟨_, hy⟩ | ⟨_, rfl⟩
    · have h1 := h.rows i y hy
      refine ⟨h1.1, ?_⟩
      rcases h1.2 with hn | ⟨g1, cap1, cur1, e1, hb1, hg1, rest⟩
      · exact .inl hn
      · refine .inr ⟨g1, cap1, cur1, e1, hb1, ?_, rest⟩
        rw [hk g1 hb1 (lt_of_heap hg1) (hty i y hy g1 (by unfold SZ.blk; rw [e1]; rfl))]
        exact hg1
    · exact ⟨hn.1, hn.2.imp_right fun ⟨g, cap, cur, a, b, r⟩ => ⟨g, cap, cur, a, by omega, r⟩⟩
  · rcases snoc_get ha with ⟨hi, ha'⟩ | ⟨hi, ea⟩
    · rcases snoc_get hb with ⟨hj, hb'⟩ | ⟨hj, eb⟩
      · exact h.apart i j a b hne ha' hb' k hak hbk
      · have h1 := ((h.rows i a ha').lt k hak).2
        rw [eb] at hbk
        have h2 := (hn.lt k hbk).1
        omega
    · rcases snoc_get hb with ⟨hj, hb'⟩ | ⟨hj, eb⟩
      · have h1 := ((h.rows j b hb').lt k hbk).2
        rw [ea] at hak
        have h2 := (hn.lt k hak).1
        omega
      · omega

set_option maxRecDepth 100000 in
set_option maxHeartbeats 2000000 in
theorem copy_ok (K : Nat → Prop) (w : World) (g cap : Nat) (cur : Array Value) (zs : List SZ) (h : Cop K w g cap cur zs) (h0 : 0 < zs.length) (h64 : zs.length ≤ 64) (h200 : ∀ (i : Nat) (z : SZ), zs[i]? = some z → z.x.l.length ≤ 200) :
    Calls Try.prog 59 #[.agg #[.slice (some ⟨g, 0, none⟩) zs.length cap]] w fun e w' => (∃ g' cap' cur' zs', e = .returned (.agg #[.slice (some ⟨g', 0, none⟩) zs.length cap']) ∧ Cop (fun k => w.heap.size ≤ k) w' g' cap' cur' zs' ∧ zs'.map (·.x) = zs.map (·.x)) ∧ Below w.heap.size w w' := by
  have hlc := h.len
  have hcm := h.most
  unfold maxLen at hcm
  have hgl := lt_of_heap h.row
  obtain ⟨i0, z0, hi0, hz0, hz1, hz2, hz3⟩ := info_open node_info
  obtain ⟨j0, y0, hj0, hy0, hy1, hy2, hy3⟩ := info_open item_info
  have H := Lib.hid (And.intro h h200)
  clear h h200
  generalize hL : zs.length = L at *
  have HL := Lib.hid hL
  clear hL
  go_enter Try.func59, Try.ntmps59
  go_wp2_with fail
  go_loopw [4] (fun i wr => ∃ j : Nat, j ≤ L ∧ i = .int .i64 j ∧ Below w.heap.size w wr ∧ w.heap.size + 2 < wr.heap.size ∧ wr.heap[w.heap.size]? = some (.cells #[.slice (some ⟨g, 0, none⟩) L cap] 28 (0, 0)) ∧ wr.heap[w.heap.size + 1]? = some (.cells #[.slice none 0 0] 28 (0, 0)) ∧ ∃ v, wr.heap[w.heap.size + 2]? = some (.cells #[v] 28 (0, 0)) ∧ ∃ ys, Part w.heap.size wr ((zs.map (·.x)).take j) v ys) (fun i _ => L - (intOf i).toNat)
  case atStart =>
    refine ⟨0, Nat.zero_le _, rfl, (((Below.refl _ _).alloc (Nat.le_refl _) _).alloc (by simp) _).alloc (by simp; omega) _, by simp, ?_, ?_, .slice none 0 0, ?_, [], rfl, World.ownsRow_nil _ _ _ _, fun i z hz => by simp at hz, fun i j a b _ ha => by simp at ha⟩
    · rw [heapAlloc, if_neg (by simp; omega), heapAlloc, if_neg (by simp), heapAlloc, if_pos rfl]
    · rw [heapAlloc, if_neg (by simp), heapAlloc, if_pos (by simp)]
    · rw [heapAlloc, if_pos (by simp)]
  case round =>
    obtain ⟨j, hj, rfl, hB, hz, hbox, hr, v, hv, ys, hP⟩ := hrel
    have hboxc : wr.cell? ⟨w.heap.size, 0, none⟩ = some (.slice (some ⟨g, 0, none⟩) L cap) := by simp [World.cell?, hbox]
    by_cases hlt : j < L
    · obtain ⟨z, hzs⟩ : ∃ z, zs[j]? = some z := ⟨_, List.getElem?_eq_getElem (by rw [HL.out]; exact hlt)⟩
      have hl2 := H.out.2 j z hzs
      have hrow := H.out.1.rows j z hzs
      obtain ⟨c0, c1, c2, c3, c4, _⟩ := H.out.1.cell hzs
      obtain ⟨⟨p, a, s, l, cl⟩, A, c⟩ := z
      replace c0 : wr.cell? ⟨g, j * 5, none⟩ = some (.int .i64 p) := (hB.cell (p := ⟨g, _, none⟩) hgl).trans c0
      replace c1 : wr.cell? ⟨g, j * 5 + 1, none⟩ = some (.int .i64 a) := (hB.cell (p := ⟨g, _, none⟩) hgl).trans c1
      replace c2 : wr.cell? ⟨g, j * 5 + 2, none⟩ = some (.int .i64 s) := (hB.cell (p := ⟨g, _, none⟩) hgl).trans c2
      replace c3 : wr.cell? ⟨g, j * 5 + 3, none⟩ = some (.slice A l.length c) := (hB.cell (p := ⟨g, _, none⟩) hgl).trans c3
      replace c4 : wr.cell? ⟨g, j * 5 + 4, none⟩ = some (.bool cl) := (hB.cell (p := ⟨g, _, none⟩) hgl).trans c4
      replace hl2 : l.length ≤ 200 := hl2
      have hrow2 : wr.ownsRow 0 54 3 (.slice A l.length c) l.length (icells l) := row_same hrow fun k hk => hB.block k (hrow.lt k hk).2
      have hmk := World.ownsRow_made (base := wr.heap.size + 1) (e := 54) (size := 3) (wr.alloc (.cells #[.int .i64 p, .int .i64 a, .int .i64 s, .slice A l.length c, .bool cl] 35)) #[] 0 (by simp) (by simp [maxLen]) rfl
      have HN := Lib.hid (And.intro hrow2 (And.intro hmk (And.intro (item_cell l) (icells_length l))))
      have H0 := Lib.hid (And.intro hB (And.intro hr (And.intro hv (And.intro hP (And.intro hzs hbox)))))
      clear hB hr hv hP hzs hbox hrow hrow2 hmk
      generalize hll : l.length = ll at *
      have HLL := Lib.hid hll
      clear hll
      have hX := heap_alloc_new wr (.cells #[.int .i64 p, .int .i64 a, .int .i64 s, .slice A ll c, .bool cl] 35)
      have HX := Lib.hid hX
      clear hX
      go_upto_region 7 with (first |
        (at_builtin; refine append_src rfl (.tmp 18) (.tmp 20) _ rfl (wr.heap.size + 1) 54 j0 y0 3 24 Try.underlying33 hj0 hy0 hy1 hy2 hy3 (by omega) (.slice (some ⟨wr.heap.size + 1, 0, none⟩) 0 0) 0 [] rfl (by simpa using HN.out.2.1) A ll c (icells l) rfl ((HN.out.1.alloc _).alloc _) HN.out.2.2.2 HN.out.2.2.1 (by unfold maxLen; omega) (by omega) (by simp) ?_
         intro v' w4 hown4 hgrow4
         have hv' : ∃ A c, v' = .slice A ll c := by have := value_of_owns hown4; simpa using this
         obtain ⟨A', c', rfl⟩ := hv'
         have hh4 : w4.heap[wr.heap.size]? = some (.cells #[.int .i64 p, .int .i64 a, .int .i64 s, .slice A ll c, .bool cl] 35 (0, 0)) := by
           rw [hgrow4.block _ (by simp; omega) (by simp [Value.ownBlock]), alloc_old _ _ _ (by simp)]; exact HX.out
         have hs4 : wr.heap.size + 2 ≤ w4.heap.size := by have := hgrow4.size; simp at this; omega
         have q3 : w4.cell? ⟨wr.heap.size, 3, none⟩ = some (.slice A ll c) := by simp [World.cell?, hh4]
         have qf : w4.frozen? ⟨wr.heap.size, 3, none⟩ = false := by simp [World.frozen?, hh4]
         have HG4 := Lib.hid (And.intro hown4 (And.intro hgrow4 hh4))
         clear hown4 hgrow4 hh4))
      obtain ⟨hown4, hgrow4, hh4⟩ := HG4.out
      obtain ⟨hB, hr, hv, hP, hzs, hbox⟩ := H0.out
      have hown4 : w4.ownsRow (wr.heap.size + 1) 54 3 (.slice A' ll c') ll (icells l) := by simpa using hown4
      obtain ⟨W5, hW5⟩ : ∃ W5, W5 = w4.setCell ⟨wr.heap.size, 3, none⟩ (.slice A' ll c') := ⟨_, rfl⟩
      have hx5 : W5.heap[wr.heap.size]? = some (.cells #[.int .i64 p, .int .i64 a, .int .i64 s, .slice A' ll c', .bool cl] 35 (0, 0)) := by
        rw [hW5, setCell_at _ _ _ _ _ _ hh4]; rfl
      have hK5 : W5.ownsRow (wr.heap.size + 1) 54 3 (.slice A' ll c') ll (icells l) := by
        rw [hW5]
        exact row_keep hown4 fun k hk _ => setCell_far _ _ _ _ (by show k ≠ wr.heap.size; omega)
      have hold4 : ∀ k, k < wr.heap.size → W5.heap[k]? = wr.heap[k]? := fun k hk => by
        rw [hW5, setCell_far _ _ _ _ (show k ≠ wr.heap.size by omega), hgrow4.block _ (by simp; omega) (by simp [Value.ownBlock]; omega), alloc_old _ _ _ (by simp; omega), alloc_old _ _ _ hk]
      have hBW : Below wr.heap.size wr W5 := ⟨by rw [hW5]; exact hgrow4.os, by rw [hW5]; exact hgrow4.tape, by rw [hW5]; exact hgrow4.output, by rw [hW5, setCell_size]; omega, hold4⟩
      rw [← hW5]
      have hs5 : wr.heap.size + 2 ≤ W5.heap.size := by rw [hW5, setCell_size]; exact hs4
      clear hW5 q3 qf HG4 hown4 hgrow4 hh4 hs4
      obtain ⟨X, hXe⟩ : ∃ X, X = wr.heap.size := ⟨_, rfl⟩
      have hyl : ys.length = j := by have := congrArg List.length hP.map; rw [List.length_map, List.length_take, List.length_map, HL.out] at this; omega
      have hv5 : W5.heap[w.heap.size + 2]? = some (.cells #[v] 28 (0, 0)) := by rw [hold4 _ (by omega)]; exact hv
      have hown5 : W5.ownsRow (w.heap.size + 3) 35 5 v j (szcells ys) := by rw [← hyl]; exact row_keep hP.row fun k _ hk => hold4 k hk
      have hvb : ∀ k, v.ownBlock = some k → w.heap.size + 3 ≤ k ∧ k < wr.heap.size := hP.row.lt
      have hvne : v.ownBlock ≠ some (w.heap.size + 2) := fun e => by have := (hvb _ e).1; omega
      rw [← hXe] at hx5
      have y0' : W5.cell? ⟨X, 0, none⟩ = some (.int .i64 p) := by simp [World.cell?, hx5]
      have y1' : W5.cell? ⟨X, 1, none⟩ = some (.int .i64 a) := by simp [World.cell?, hx5]
      have y2' : W5.cell? ⟨X, 2, none⟩ = some (.int .i64 s) := by simp [World.cell?, hx5]
      have y3' : W5.cell? ⟨X, 3, none⟩ = some (.slice A' ll c') := by simp [World.cell?, hx5]
      have y4' : W5.cell? ⟨X, 4, none⟩ = some (.bool cl) := by simp [World.cell?, hx5]
      have y5 : W5.cell? ⟨w.heap.size + 2, 0, none⟩ = some v := by simp [World.cell?, hv5]
      have y6 : W5.frozen? ⟨w.heap.size + 2, 0, none⟩ = false := by simp [World.frozen?, hv5]
      have y7 : W5.cell? ⟨w.heap.size, 0, none⟩ = some (.slice (some ⟨g, 0, none⟩) L cap) := by exact (World.cell?_of_block (a := ⟨w.heap.size, _, none⟩) (hold4 w.heap.size (by omega))).trans hboxc
      have hX3 : w.heap.size + 2 < X := by rw [hXe]; exact hz
      rw [← hXe] at hs5
      have H5 := Lib.hid (And.intro hB (And.intro hr (And.intro hbox (And.intro hP (And.intro hzs (And.intro hK5 (And.intro hold4 (And.intro hBW (And.intro hvb (And.intro hyl (And.intro hv5 hx5)))))))))))
      have HO5 := Lib.hid hown5
      rw [← hXe]
      have hXE := Lib.hid hXe
      clear hB hr hbox hP hzs hK5 hold4 hBW hvb hyl hv5 hx5 hown5 hXe HN H0 HX c0 c1 c2 c3 c4 hboxc
      go_wp2_with (first |
        (at_builtin; refine wpList_append_lies _ rfl (.tmp 24) (.tmp 26) _ rfl (w.heap.size + 3) 35 i0 z0 5 56 Try.underlying26 hi0 hz0 hz1 hz2 hz3 (by omega) v j (szcells ys) rfl (HO5.out.alloc _) ⟨W5.heap.size, 0, none⟩ 1 1 [.int .i64 p, .int .i64 a, .int .i64 s, .slice A' ll c', .bool cl] rfl rfl (World.news_of_block (heap_alloc_new _ _)) (by simp [Value.oneCell']) (by omega) (by unfold maxLen; omega) (by omega) (by simp; omega) (W5.heap.size + 1) (by simp) ?_
         intro g6 cap6 w6 hown6 hgrow6 hat6 hlt6
         have q1 : w6.cell? ⟨w.heap.size + 2, 0, none⟩ = some v := (hgrow6.cell_far ⟨w.heap.size + 2, 0, none⟩ (by simp; omega) (fun e => hvne e.symm)).trans ((World.cell?_alloc_lt _ _ _ (by simp; omega)).trans y5)
         have q2 : w6.frozen? ⟨w.heap.size + 2, 0, none⟩ = false := (hgrow6.frozen_far ⟨w.heap.size + 2, 0, none⟩ (by simp; omega) (fun e => hvne e.symm)).trans ((World.frozen?_alloc_old _ _ _ (by simp; omega)).trans y6)))
      go_roundw
      case rel =>
        obtain ⟨hB, hr, hbox, hP, hzs, hK5, hold4, hBW, hvb, hyl, hv5, hx5⟩ := H5.out
        have hXe := hXE.out
        have hg6 : w.heap.size + 3 ≤ g6 := (hown6.lt g6 rfl).1
        have hk7 : ∀ k, k < W5.heap.size → v.ownBlock ≠ some k → k ≠ w.heap.size + 2 → (w6.setCell ⟨w.heap.size + 2, 0, none⟩ (.slice (some ⟨g6, 0, none⟩) (j + 1) cap6)).heap[k]? = W5.heap[k]? := fun k hk hn h1 => by
          rw [setCell_far _ _ _ _ h1, hgrow6.block k (by simp; omega) (fun e => hn e.symm), alloc_old _ _ _ hk]
        have hs6 : W5.heap.size < w6.heap.size := by have := hgrow6.size; simp at this; omega
        have htk : (zs.map (·.x)).take (j + 1) = (zs.map (·.x)).take j ++ [⟨p, a, s, l, cl⟩] := by
          have : (zs.map (·.x))[j]? = some ⟨p, a, s, l, cl⟩ := by rw [List.getElem?_map, hzs]; rfl
          obtain ⟨hl', e⟩ := List.getElem?_eq_some_iff.1 this
          rw [List.take_succ_eq_append_getElem hl', e]
        have hkn : ∀ k, k < w.heap.size + 3 → v.ownBlock ≠ some k := fun k hk e => by have := (hvb k e).1; omega
        refine ⟨j + 1, by omega, by go_num, ?_, by rw [setCell_size]; omega, ?_, ?_, .slice (some ⟨g6, 0, none⟩) (j + 1) cap6, setCell_at w6 (w.heap.size + 2) 0 #[v] 28 _ ?_, ys ++ [⟨⟨p, a, s, l, cl⟩, A', c'⟩], ?_⟩
        · refine ⟨hgrow6.os.trans (hBW.os.trans hB.os), hgrow6.tape.trans (hBW.tape.trans hB.tape), hgrow6.output.trans (hBW.output.trans hB.output), by rw [setCell_size]; have := hB.size; omega, fun k hk => ?_⟩
          rw [hk7 k (by omega) (hkn k (by omega)) (by omega), hold4 k (by omega)]
          exact hB.block k hk
        · rw [hk7 _ (by omega) (hkn _ (by omega)) (by omega), hold4 _ (by omega)]; exact hbox
        · rw [hk7 _ (by omega) (hkn _ (by omega)) (by omega), hold4 _ (by omega)]; exact hr
        · rw [hgrow6.block _ (by simp; omega) (fun e => hkn _ (by omega) e.symm), alloc_old _ _ _ (by omega)]; exact hv5
        · rw [htk]
          refine hP.more (W5 := W5) (z := ⟨⟨p, a, s, l, cl⟩, A', c'⟩) ?_ (fun k h1 h2 h3 => ?_) ?_ (by omega)
          · have e2 : SZ.cells ⟨⟨p, a, s, l, cl⟩, A', c'⟩ = [.int .i64 p, .int .i64 a, .int .i64 s, .slice A' ll c', .bool cl] := by simp [SZ.cells, HLL.out]
            rw [hyl, e2]
            exact row_keep hown6 fun k hk _ => setCell_far _ _ _ _ (by show k ≠ w.heap.size + 2; omega)
          · rw [hk7 k (by omega) h3 (by omega), hold4 k h2]
          · have e3 : (SZ.val ⟨⟨p, a, s, l, cl⟩, A', c'⟩) = .slice A' ll c' := by simp [SZ.val, HLL.out]
            have hl3 : (icells l).length = ll * 3 := by rw [icells_length, HLL.out]
            rw [e3]
            show World.ownsRow _ _ _ _ _ l.length (icells l)
            rw [HLL.out]
            refine row_keep hK5 fun k h1 h2 => hk7 k h2 (fun e => ?_) (by omega)
            have := (hvb k e).2
            omega
      case measure => simp [intOf]; omega
    · obtain rfl : j = L := by omega
      have hr2 : wr.cell? ⟨w.heap.size + 1, 0, none⟩ = some (.slice none 0 0) := by simp [World.cell?, hr]
      have hr3 : wr.frozen? ⟨w.heap.size + 1, 0, none⟩ = false := by simp [World.frozen?, hr]
      have hv2 : wr.cell? ⟨w.heap.size + 2, 0, none⟩ = some v := by simp [World.cell?, hv]
      have htk : (zs.map (·.x)).take j = zs.map (·.x) := by
        have : (zs.map (·.x)).length = j := by rw [List.length_map, HL.out]
        rw [← this, List.take_length]
      rw [htk] at hP
      have hyl : ys.length = j := by have := congrArg List.length hP.map; rw [List.length_map, List.length_map, HL.out] at this; exact this
      obtain ⟨g', cap', cur', rfl, hC⟩ := hP.cop (by omega)
      rw [hyl] at hv2 hv
      have hne : ∀ k, w.heap.size ≤ k → k < wr.heap.size → k ≠ w.heap.size + 1 → (wr.setCell ⟨w.heap.size + 1, 0, none⟩ (.slice (some ⟨g', 0, none⟩) j cap')).heap[k]? = wr.heap[k]? := fun k _ _ h => setCell_far _ _ _ _ h
      have hres := setCell_at wr (w.heap.size + 1) 0 #[.slice none 0 0] 28 (.slice (some ⟨g', 0, none⟩) j cap') hr
      have hC2 : Cop (fun k => w.heap.size ≤ k) (wr.setCell ⟨w.heap.size + 1, 0, none⟩ (.slice (some ⟨g', 0, none⟩) j cap')) g' cap' cur' ys := by
        have hKK : Cop (fun k => w.heap.size + 3 ≤ k) wr g' cap' cur' ys := by
          refine ⟨?_, hC.row, hC.size, hC.len, hC.most, hC.cells, hC.rows, fun i z b hz hb => ((hP.rows i z hz).lt b hb).1, hC.apart⟩
          exact (hP.row.lt g' rfl).1
        exact hKK.keep fun k hk hl => ⟨setCell_far _ _ _ _ (by show k ≠ w.heap.size + 1; omega), by omega⟩
      have HF := Lib.hid (And.intro hB (And.intro hC2 (And.intro hP.map hres)))
      clear hB hC2 hP hres hne hC hr hv hbox htk hyl
      go_wp2
      have hcr : (wr.setCell ⟨w.heap.size + 1, 0, none⟩ (.slice (some ⟨g', 0, none⟩) j cap')).cell? ⟨w.heap.size + 1, 0, none⟩ = some (.slice (some ⟨g', 0, none⟩) j cap') := by
        have := HF.out.2.2.2
        simp [World.cell?, this]
      refine bodyPost_ret (v := .agg #[.slice (some ⟨g', 0, none⟩) j cap']) (by simp [results, Try.results59, go_sem, hcr]) rfl ⟨⟨g', cap', rfl, cur', ys, HF.out.2.1, HF.out.2.2.1⟩, HF.out.1.setCell (by show w.heap.size ≤ w.heap.size + 1; omega) _⟩
end Ne
end Go.Proofs.Ytllmddhahpegmaa
namespace Go.Proofs.Ytllmddhahpegmaa
open Go.RowKit
namespace Ne

/-- An arena of a state is written anew. -/
theorem Cop.put {K : Nat → Prop} {w w' : World} {g cap : Nat} {cur cur' : Array Value} {zs : List SZ} {i : Nat} {z' : SZ} (h : Cop K w g cap cur zs) (hi : i < zs.length)
    (hg : w'.heap[g]? = some (.cells cur' 35 (0, 0))) (hsz : cur'.size = cur.size) (hfar : ∀ m, m < i * 5 ∨ i * 5 + 5 ≤ m → cur'[m]? = cur[m]?)
    (hcell : cur'[i * 5]? = some (.int .i64 z'.x.p) ∧ cur'[i * 5 + 1]? = some (.int .i64 z'.x.a) ∧ cur'[i * 5 + 2]? = some (.int .i64 z'.x.s) ∧ cur'[i * 5 + 3]? = some z'.val ∧ cur'[i * 5 + 4]? = some (.bool z'.x.cl))
    (hrow : w'.ownsRow 0 54 3 z'.val z'.x.l.length (icells z'.x.l)) (hown : ∀ b, z'.blk = some b → K b)
    (hap : ∀ (j : Nat) (y : SZ), j ≠ i → zs[j]? = some y → ∀ b, z'.blk = some b → y.blk ≠ some b)
    (hkeep : ∀ (j : Nat) (y : SZ) (b : Nat), j ≠ i → zs[j]? = some y → y.blk = some b → w'.heap[b]? = w.heap[b]?) : Cop K w' g cap cur' (zs.set i z') := by
  have hget : ∀ (j : Nat) (y : SZ), (zs.set i z')[j]? = some y → (j = i ∧ y = z') ∨ (j ≠ i ∧ zs[j]? = some y) := by
    intro j y hj
    by_cases e : j = i
    · subst e
      rw [List.getElem?_set_self hi] at hj
      injection hj with hj
      exact .inl ⟨rfl, hj.symm⟩
    · rw [List.getElem?_set_ne (fun x => e x.symm)] at hj
      exact .inr ⟨e, hj⟩
  refine ⟨h.low, hg, hsz.trans h.size, by simpa using h.len, h.most, fun j y hj => ?_, fun j y hj => ?_, fun j y b hj hb => ?_, fun j m a b hne ha hb k hak hbk => ?_⟩
  · rcases hget j y hj with ⟨rfl, rfl⟩ | ⟨hne, hj⟩
    · exact hcell
    · rw [hfar _ (by omega), hfar _ (by omega), hfar _ (by omega), hfar _ (by omega), hfar _ (by omega)]
      exact h.cells j y hj
  · rcases hget j y hj with ⟨rfl, rfl⟩ | ⟨hne, hj⟩
    · exact hrow
    · exact row_same (h.rows j y hj) fun b hb => hkeep j y b hne hj hb
  · rcases hget j y hj with ⟨rfl, rfl⟩ | ⟨hne, hj⟩
    · exact hown b hb
    · exact h.own j y b hj hb
  · rcases hget j a ha with ⟨e1, e2⟩ | ⟨n1, ha'⟩
    · rcases hget m b hb with ⟨e3, e4⟩ | ⟨n2, hb'⟩
      · omega
      · rw [e2] at hak
        exact hap m b n2 hb' k hak hbk
    · rcases hget m b hb with ⟨e3, e4⟩ | ⟨n2, hb'⟩
      · rw [e4] at hbk
        exact hap j a n1 ha' k hbk hak
      · exact h.apart j m a b hne ha' hb' k hak hbk

theorem Cop.not_row {K : Nat → Prop} {w : World} {g cap : Nat} {cur : Array Value} {zs : List SZ} (h : Cop K w g cap cur zs) {j : Nat} {y : SZ} {b : Nat} (hj : zs[j]? = some y) (hb : y.blk = some b) : b ≠ g := by
  intro e
  subst e
  rcases (h.rows j y hj).2 with ⟨e, _⟩ | ⟨g1, cap1, cur1, e1, _, hg1, _⟩
  · unfold SZ.blk at hb; rw [e] at hb; cases hb
  · have e2 : g1 = b := by unfold SZ.blk at hb; rw [e1] at hb; simpa [Value.ownBlock] using hb
    subst e2
    rw [h.row] at hg1
    simp at hg1

/-- What is left of an arena that was closed. -/
def shutZ : SZ := ⟨⟨-1, 0, 0, [], true⟩, none, 0⟩

def put5 (w : World) (g i : Nat) (x0 x1 x2 x3 x4 : Value) : World :=
  ((((w.setCell ⟨g, i * 5, none⟩ x0).setCell ⟨g, i * 5 + 1, none⟩ x1).setCell ⟨g, i * 5 + 2, none⟩ x2).setCell ⟨g, i * 5 + 3, none⟩ x3).setCell ⟨g, i * 5 + 4, none⟩ x4
theorem put5_far (w : World) (g i : Nat) (x0 x1 x2 x3 x4 : Value) (k : Nat) (h : k ≠ g) : (put5 w g i x0 x1 x2 x3 x4).heap[k]? = w.heap[k]? := by
  unfold put5
  rw [setCell_far _ _ _ _ h, setCell_far _ _ _ _ h, setCell_far _ _ _ _ h, setCell_far _ _ _ _ h, setCell_far _ _ _ _ h]
theorem put5_grow (w : World) (g i : Nat) (x0 x1 x2 x3 x4 : Value) : Grow1 g w (put5 w g i x0 x1 x2 x3 x4) :=
  (((((Grow1.refl g w).setCell _ _).setCell _ _).setCell _ _).setCell _ _).setCell _ _
theorem put5_at {w : World} {g i : Nat} {cur : Array Value} (x0 x1 x2 x3 x4 : Value) (h : w.heap[g]? = some (.cells cur 35 (0, 0))) (hs : i * 5 + 5 ≤ cur.size) :
    ∃ cur', (put5 w g i x0 x1 x2 x3 x4).heap[g]? = some (.cells cur' 35 (0, 0)) ∧ cur'.size = cur.size ∧ (∀ m, m < i * 5 ∨ i * 5 + 5 ≤ m → cur'[m]? = cur[m]?) ∧
      cur'[i * 5]? = some x0 ∧ cur'[i * 5 + 1]? = some x1 ∧ cur'[i * 5 + 2]? = some x2 ∧ cur'[i * 5 + 3]? = some x3 ∧ cur'[i * 5 + 4]? = some x4 := by
  have h1 := setCell_at w g (i * 5) _ 35 x0 h
  have h2 := setCell_at _ g (i * 5 + 1) _ 35 x1 h1
  have h3 := setCell_at _ g (i * 5 + 2) _ 35 x2 h2
  have h4 := setCell_at _ g (i * 5 + 3) _ 35 x3 h3
  have h5 := setCell_at _ g (i * 5 + 4) _ 35 x4 h4
  refine ⟨_, h5, by simp, fun m hm => ?_, ?_, ?_, ?_, ?_, ?_⟩
  · rw [Array.getElem?_setIfInBounds, if_neg (by omega), Array.getElem?_setIfInBounds, if_neg (by omega), Array.getElem?_setIfInBounds, if_neg (by omega), Array.getElem?_setIfInBounds, if_neg (by omega), Array.getElem?_setIfInBounds, if_neg (by omega)]
  all_goals
    simp [Array.getElem?_setIfInBounds]
    try omega

theorem Cop.close {K : Nat → Prop} {w : World} {g cap : Nat} {cur : Array Value} {zs : List SZ} {i : Nat} (h : Cop K w g cap cur zs) (hi : i < zs.length) :
    ∃ cur', Cop K (put5 w g i (.int .i64 (-1)) (.int .i64 0) (.int .i64 0) (.slice none 0 0) (.bool true)) g cap cur' (zs.set i shutZ) := by
  have hsz := h.size
  have hln := h.len
  obtain ⟨cur', h1, h2, h3, h4⟩ := put5_at (i := i) (.int .i64 (-1)) (.int .i64 0) (.int .i64 0) (.slice none 0 0) (.bool true) h.row (by omega)
  refine ⟨cur', h.put hi h1 h2 h3 h4 (World.ownsRow_nil _ _ _ _) (fun b hb => by cases hb) (fun j y _ _ b hb => by cases hb) fun j y b _ hj hb => ?_⟩
  exact put5_far _ _ _ _ _ _ _ _ _ (h.not_row hj hb)

theorem save_set_none (M : Tr) (i : Nat) : save (M.set i none) = (save M).set i shutZ.x := by
  simp [save, List.map_set, saveNode, shutZ]
end Ne
end Go.Proofs.Ytllmddhahpegmaa
