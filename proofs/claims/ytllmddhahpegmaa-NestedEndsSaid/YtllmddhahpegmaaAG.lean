/- The walk of NestedEnds. -/
import Derived.Test.YtllmddhahpegmaaAF
import Derived.Test.YtllmddhahpegmaaPlain11
import Derived.Test.YtllmddhahpegmaaW
import Derived.Test.YtllmddhahpegmaaY
import Derived.Deep.CutRange
import Derived.Deep.RegionHeld3
namespace Go.Proofs.Ytllmddhahpegmaa
open Go.RowKit
namespace Ne

theorem row_keep {w w' : World} {B e s n : Nat} {v : Value} {xs : List Value} (h : w.ownsRow B e s v n xs) (hk : ∀ g, B ≤ g → g < w.heap.size → w'.heap[g]? = w.heap[g]?) : w'.ownsRow B e s v n xs := by
  refine ⟨h.1, ?_⟩
  rcases h.2 with hn | ⟨g, cap, cur, rfl, hB, hgg, rest⟩
  · exact .inl hn
  · exact .inr ⟨g, cap, cur, rfl, hB, by rw [hk g hB (lt_of_heap hgg)]; exact hgg, rest⟩

set_option maxRecDepth 100000 in
set_option maxHeartbeats 4000000 in
theorem ends_walk (w : World) (size k : Int) (A : Option Addr) (c : Nat) (l : List Cl) (h : CallsAt w A c l) :
    Calls Try.prog 7 #[.int .i64 size, .slice A l.length c, .int .i64 k] w fun e w' => e = .returned (.bool true) ∧ Below w.heap.size w w' := by
  have HMade := Lib.hid (made_calls w size A c l h)
  clear h
  generalize l.length = L0 at *
  go_enter Try.func7, Try.ntmps7
  go_wp2_with (go_at_call 9; fail)
  refine HMade.out.mono ?_
  clear HMade
  rintro e w1 (⟨rfl, hb1⟩ | ⟨_, _, _, t, own1, M, rfl, H1, _⟩)
  · go_wp2_with (go_at_call 10; refine (awake_ok _).mono ?_; rintro e w2 ⟨rfl, hb2⟩)
    go_ret
    exact ⟨rfl, hb1.trans (hb2.mono hb1.size)⟩
  go_wp2_with (go_at_call 11; fail)
  refine (kp_save H1).mono ?_
  rintro e w2 ⟨⟨A5, c5, rfl, hS⟩, H2, _⟩
  have hsl : (save M).length = M.length := by simp [save]
  have hw2 := H2.below.size
  have r8 : (w2.alloc (.cells #[.slice A5 (save M).length c5] 28)).cell? ⟨w2.heap.size, 0, none⟩ = some (.slice A5 (save M).length c5) := by
    rw [World.cell?_alloc_at _ _ _ _ rfl]; rfl
  have H3 : Held w (w2.alloc (.cells #[.slice A5 (save M).length c5] 28)) own1 t M := H2.of_below ((Below.refl _ _).alloc (Nat.le_refl _) _)
  have hS3 : StK (fun k => own1 k = none ∧ k < w2.heap.size + 1) (w2.alloc (.cells #[.slice A5 (save M).length c5] 28)) A5 c5 (save M) := by
    refine hS.keep fun k hk hlt => ⟨heap_alloc_old _ _ hlt, hk.1, by omega⟩
  have h8 : own1 w2.heap.size = none := by
    cases e : own1 w2.heap.size with
    | none => rfl
    | some v => exact absurd (H2.fresh _ (by rw [e]; simp)) (by omega)
  have hsz : (w2.alloc (.cells #[.slice A5 (save M).length c5] 28)).heap.size = w2.heap.size + 1 := by simp
  rw [hsl] at r8 H3 hS3 hsz
  have HS := Lib.hid (And.intro H3 (And.intro hS3 h8))
  clear H1 H2 H3 hS3 hS h8
  go_wp2_with (go_at_call 24; fail)
  generalize (w2.alloc (.cells #[.slice A5 M.length c5] 28)) = w3 at *
  refine (below_ok w3 own1 t M k HS.out.1.tree HS.out.1.fresh HS.out.1.good).mono ?_
  rintro e w4 ⟨⟨A9, c9, L, rfl, hU, hrow4⟩, hb4⟩
  have H4 : Held w w4 own1 t M := HS.out.1.of_below hb4
  obtain ⟨F, hF⟩ := H4.good.big
  obtain ⟨M', v, hst⟩ : ∃ M' v, stopAt M F k = (M', v) := ⟨_, _, rfl⟩
  have HP := Lib.hid (And.intro hU (And.intro hF (And.intro hst (And.intro H4 hrow4))))
  have HB4 := Lib.hid hb4
  clear hU hF hst H4 hrow4 hb4
  go_wp2_with (go_at_call 18; fail)
  refine (kp_stop HP.out.2.2.2.1 k HP.out.2.1 HP.out.2.2.1).mono ?_
  rintro e w5 ⟨own5, rfl, H5, hK5⟩
  have H5 := Lib.hid (And.intro H5 hK5)
  clear hK5
  go_wp2_with (go_at_call 11; fail)
  refine (kp_save H5.out.1).mono ?_
  rintro e w6 ⟨⟨A6, c6, rfl, hS6⟩, H6, hb6⟩
  have hsl6 : (save M').length = M'.length := by simp [save]
  have H6 := Lib.hid (And.intro hS6 (And.intro H6 hb6))
  clear hS6 hb6
  have hs34 := HB4.out.size
  have hs45 := H5.out.2.size
  have hs56 := H6.out.2.2.size
  have hBK : ∀ x, x < w3.heap.size → own1 x = none → (w6.alloc (.cells #[.slice A6 M'.length c6] 28)).heap[x]? = w3.heap[x]? := fun x h1 h2 =>
    (heap_alloc_old _ _ (by omega)).trans ((H6.out.2.2.block x (by omega)).trans ((H5.out.2.block x (by omega) h2).trans (HB4.out.block x h1)))
  have q8 : (w6.alloc (.cells #[.slice A6 M'.length c6] 28)).cell? ⟨w2.heap.size, 0, none⟩ = some (.slice A5 M.length c5) := (World.cell?_of_block (a := ⟨w2.heap.size, 0, none⟩) (hBK w2.heap.size (by omega) HS.out.2.2)).trans r8
  have q11 : (w6.alloc (.cells #[.slice A6 M'.length c6] 28)).cell? ⟨w6.heap.size, 0, none⟩ = some (.slice A6 M'.length c6) := by rw [World.cell?_alloc_at _ _ _ _ rfl]; rfl
  have hrow : (w6.alloc (.cells #[.slice A6 M'.length c6] 28)).ownsRow w3.heap.size 3 1 (.slice A9 L.length c9) L.length (nints L) := row_keep HP.out.2.2.2.2 fun g h1 h2 => by
    refine (heap_alloc_old _ _ (by omega)).trans ((H6.out.2.2.block g (by omega)).trans (H5.out.2.block g h2 ?_))
    cases e : own1 g with
    | none => rfl
    | some z => exact absurd (HS.out.1.fresh g (by rw [e]; simp)) (by omega)
  have hS8 : StK (fun _ => True) (w6.alloc (.cells #[.slice A6 M'.length c6] 28)) A5 c5 (save M) := HS.out.2.1.keep fun x h1 h2 => ⟨hBK x h2 h1.1, trivial⟩
  have hS11 : StK (fun _ => True) (w6.alloc (.cells #[.slice A6 M'.length c6] 28)) A6 c6 (save M') := H6.out.1.keep fun x _ h2 => ⟨heap_alloc_old _ _ h2, trivial⟩
  have hBW : Below w.heap.size w (w6.alloc (.cells #[.slice A6 M'.length c6] 28)) := H6.out.2.1.below.trans (((Below.refl _ _).alloc (Nat.le_refl _) _).mono H6.out.2.1.below.size)
  have hszW : (w6.alloc (.cells #[.slice A6 M'.length c6] 28)).heap.size = w6.heap.size + 1 := by simp
  have hUM := HP.out.1
  have hG := HP.out.2.2.2.1.good
  have hL64 := hUM.len
  have hM64 := hG.len
  have hM'64 := H5.out.1.good.len
  have HX := Lib.hid (And.intro hS8 (And.intro hS11 (And.intro hBW (And.intro hUM (And.intro hG (And.intro HP.out.2.1 (And.intro HP.out.2.2.1 hrow)))))))
  have hle := hrow.1
  have hl9 := row_le hrow
  have hw26 : w2.heap.size < w6.heap.size := by omega
  clear hS8 hS11 hBW hUM hG HP HS HB4 H5 H6 hBK hrow hs34 hs45 hs56 r8
  by_cases hv : v = 0
  · subst hv
    go_wp2_with fail
    generalize (w6.alloc (.cells #[.slice A6 M'.length c6] 28)) = W at *
    have hc5 := HX.out.1.1
    have hc5m := HX.out.1.2.1
    have hc6 := HX.out.2.1.1
    have hc6m := HX.out.2.1.2.1
    have hc9 := hl9.1
    have hc9m := hl9.2
    rw [hsl] at hc5
    rw [hsl6] at hc6
    unfold maxLen at hc5m hc6m hc9m
    clear hl9 hle
    go_loopw [12, 13, 14, 15, 16, 17, 18] (fun i _ _ _ _ _ _ wr => ∃ j : Nat, j ≤ M.length ∧ i = .int .i64 j ∧ Below W.heap.size W wr) (fun i _ _ _ _ _ _ _ => M.length - (intOf i).toNat)
    case atStart => exact ⟨0, Nat.zero_le _, rfl, Below.refl _ _⟩
    case round =>
      obtain ⟨j, hj, rfl, hb⟩ := hrel
      have y8 := (hb.cell (p := ⟨w2.heap.size, 0, none⟩) (show w2.heap.size < W.heap.size by omega)).trans q8
      have y11 := (hb.cell (p := ⟨w6.heap.size, 0, none⟩) (show w6.heap.size < W.heap.size by omega)).trans q11
      have hbs := hb.size
      have HB := Lib.hid hb
      clear hb q8 q11
      by_cases hjl : j < M.length
      · obtain ⟨o, ho⟩ : ∃ o, M[j]? = some o := ⟨_, List.getElem?_eq_getElem hjl⟩
        obtain ⟨g, of, B, cB, rfl, _, ⟨cur, hcur⟩, p0, p1, p2, p3, p4, hRA⟩ := HX.out.1.2.2 j (saveNode o) (by rw [save, List.getElem?_map, ho]; rfl)
        have hgl := lt_of_heap hcur
        replace p0 := (HB.out.cell (p := ⟨g, _, none⟩) hgl).trans p0
        replace p1 := (HB.out.cell (p := ⟨g, _, none⟩) hgl).trans p1
        replace p2 := (HB.out.cell (p := ⟨g, _, none⟩) hgl).trans p2
        replace p3 := (HB.out.cell (p := ⟨g, _, none⟩) hgl).trans p3
        replace p4 := (HB.out.cell (p := ⟨g, _, none⟩) hgl).trans p4
        clear hcur
        cases o with
        | none =>
          replace p4 : wr.cell? ⟨g, of + j * 5 + 4, none⟩ = some (.bool true) := p4
          clear ho hRA p0 p1 p2 p3
          go_wp2
          go_roundw
          case rel => exact ⟨j + 1, by omega, by go_num, HB.out⟩
          case measure => simp [intOf]; omega
        | some a =>
          replace p0 : wr.cell? ⟨g, of + j * 5, none⟩ = some (.int .i64 a.p) := p0
          replace p1 : wr.cell? ⟨g, of + j * 5 + 1, none⟩ = some (.int .i64 a.a) := p1
          replace p2 : wr.cell? ⟨g, of + j * 5 + 2, none⟩ = some (.int .i64 a.s) := p2
          replace p3 : wr.cell? ⟨g, of + j * 5 + 3, none⟩ = some (.slice B a.l.length cB) := p3
          replace p4 : wr.cell? ⟨g, of + j * 5 + 4, none⟩ = some (.bool false) := p4
          replace hRA : RowK (fun _ => True) W B cB a.l := hRA
          have law := ends_law HX.out.2.2.2.2.1 HX.out.2.2.2.2.2.1 HX.out.2.2.2.2.2.2.1 HX.out.2.2.2.1 j a ho
          have HL := Lib.hid (And.intro law hRA)
          clear ho hRA law
          go_wp2_with fail
          go_loop [13, 14] (fun b i => ∃ m : Nat, m ≤ L.length ∧ i = .int .i64 m ∧ ∃ bb : Bool, b = .bool bb ∧ (bb = true ↔ j ∈ L.take m)) (fun _ i => L.length - (intOf i).toNat)
          case atStart => exact ⟨0, Nat.zero_le _, rfl, false, rfl, by simp⟩
          case round =>
            obtain ⟨m, hm, rfl, bb, rfl, hbb⟩ := hrel
            have HBB := Lib.hid hbb
            clear hbb
            by_cases hml : m < L.length
            · obtain ⟨a', ha'⟩ : ∃ a', L[m]? = some a' := ⟨_, List.getElem?_eq_getElem hml⟩
              obtain ⟨g9, rfl, _, hg9, hc⟩ := nints_cell HX.out.2.2.2.2.2.2.2 rfl m a' ha'
              have hc := (HB.out.cell (p := ⟨g9, _, none⟩) hg9).trans hc
              have htk : L.take (m + 1) = L.take m ++ [a'] := by rw [List.take_add_one, ha']; rfl
              have HTK := Lib.hid htk
              clear ha' htk
              cases bb with
              | true =>
                go_wp2
                go_round
                case rel => exact ⟨m + 1, by omega, by go_num, true, rfl, by rw [HTK.out]; simp; exact .inl (HBB.out.1 rfl)⟩
                case measure => simp [intOf]; omega
              | false =>
                by_cases e : a' = j
                · have hb' : ((a' : Int) == (j : Int)) = true := by rw [beq_iff_eq]; omega
                  have HE := Lib.hid e
                  clear e
                  go_wp2
                  go_round
                  case rel => exact ⟨m + 1, by omega, by go_num, true, rfl, by rw [HTK.out]; simp; exact .inr HE.out.symm⟩
                  case measure => simp [intOf]; omega
                · have hb' : ((a' : Int) == (j : Int)) = false := by rw [beq_eq_false_iff_ne]; omega
                  have HE := Lib.hid e
                  clear e
                  go_wp2
                  go_round
                  case rel =>
                    refine ⟨m + 1, by omega, by go_num, false, rfl, ?_⟩
                    rw [HTK.out]
                    constructor
                    · intro x; cases x
                    · intro x
                      rcases List.mem_append.1 x with x | x
                      · exact HBB.out.2 x
                      · rw [List.mem_singleton] at x; exact absurd x.symm HE.out
                  case measure => simp [intOf]; omega
            · obtain rfl : m = L.length := by omega
              have hbb : bb = true ↔ j ∈ L := by have := HBB.out; rwa [List.take_length] at this
              clear HBB hml
              rcases HL.out.1 with ⟨hin, hno⟩ | ⟨hnin, b, hbM, e1, e2, e3, e4, e5⟩
              · obtain rfl : bb = true := hbb.2 hin
                clear hbb hin
                by_cases hj' : j < M'.length
                · obtain ⟨o', ho'⟩ : ∃ o', M'[j]? = some o' := ⟨_, List.getElem?_eq_getElem hj'⟩
                  have : o' = none := by
                    cases o' with
                    | none => rfl
                    | some z => exact absurd ho' (hno z)
                  subst this
                  obtain ⟨g6, of6, B6, cB6, rfl, _, ⟨cur6, hcur6⟩, _, _, _, _, z4, _⟩ := HX.out.2.1.2.2 j (saveNode none) (by rw [save, List.getElem?_map, ho']; rfl)
                  have hg6 := lt_of_heap hcur6
                  replace z4 : wr.cell? ⟨g6, of6 + j * 5 + 4, none⟩ = some (.bool true) := (HB.out.cell (p := ⟨g6, _, none⟩) hg6).trans z4
                  clear ho' hcur6 hno
                  go_wp2
                  go_roundw
                  case rel => exact ⟨j + 1, by omega, by go_num, HB.out⟩
                  case measure => simp [intOf]; omega
                · clear hno
                  go_wp2
                  go_roundw
                  case rel => exact ⟨j + 1, by omega, by go_num, HB.out⟩
                  case measure => simp [intOf]; omega
              · obtain rfl : bb = false := by
                  cases bb with
                  | false => rfl
                  | true => exact absurd (hbb.1 rfl) hnin
                clear hbb hnin
                obtain ⟨g6, of6, B6, cB6, rfl, _, ⟨cur6, hcur6⟩, z0, z1, z2, z3, z4, hRB⟩ := HX.out.2.1.2.2 j (saveNode (some b)) (by rw [save, List.getElem?_map, hbM]; rfl)
                have hg6 := lt_of_heap hcur6
                have hj' := (List.getElem?_eq_some_iff.1 hbM).1
                replace z0 : wr.cell? ⟨g6, of6 + j * 5, none⟩ = some (.int .i64 a.p) := by rw [← e3]; exact (HB.out.cell (p := ⟨g6, _, none⟩) hg6).trans z0
                replace z1 : wr.cell? ⟨g6, of6 + j * 5 + 1, none⟩ = some (.int .i64 a.a) := by rw [← e1]; exact (HB.out.cell (p := ⟨g6, _, none⟩) hg6).trans z1
                replace z2 : wr.cell? ⟨g6, of6 + j * 5 + 2, none⟩ = some (.int .i64 a.s) := by rw [← e2]; exact (HB.out.cell (p := ⟨g6, _, none⟩) hg6).trans z2
                replace z3 : wr.cell? ⟨g6, of6 + j * 5 + 3, none⟩ = some (.slice B6 b.l.length cB6) := (HB.out.cell (p := ⟨g6, _, none⟩) hg6).trans z3
                replace z4 : wr.cell? ⟨g6, of6 + j * 5 + 4, none⟩ = some (.bool false) := (HB.out.cell (p := ⟨g6, _, none⟩) hg6).trans z4
                replace hRB : RowK (fun _ => True) W B6 cB6 b.l := hRB
                have HL := Lib.hid (And.intro e5 (And.intro HL.out.2 hRB))
                clear hcur6 hbM e1 e2 e3 e5 hRB
                have hk0 := stop_pos HX.out.2.2.2.2.2.2.1
                have n8 := World.new_ne wr _ y8
                have n11 := World.new_ne wr _ y11
                have np := World.new_ne wr _ p0
                have nq := World.new_ne wr _ z0
                have hs8 : w2.heap.size < wr.heap.size := by omega
                have hs11 : w6.heap.size < wr.heap.size := by omega
                have hgw : g < wr.heap.size := by omega
                have hg6w : g6 < wr.heap.size := by omega
                generalize a.p = xp at *
                generalize a.a = xa at *
                generalize a.s = xs at *
                generalize hla : a.l = la at *
                generalize hlb : b.l = lb at *
                clear hla hlb
                go_upto_region 22 with (fail)
                go_cut [15, 16] from 56 to 213 (fun u v wx => ∃ g1 g2, u = .pointer (some ⟨g1, 0, none⟩) ∧ v = .pointer (some ⟨g2, 0, none⟩) ∧ Below wr.heap.size wr wx ∧ g1 < wx.heap.size ∧ g2 < wx.heap.size ∧
                  wx.cell? ⟨g1, 0, none⟩ = some (.int .i64 xp) ∧ wx.cell? ⟨g1, 1, none⟩ = some (.int .i64 xa) ∧ wx.cell? ⟨g1, 2, none⟩ = some (.int .i64 xs) ∧ wx.cell? ⟨g1, 3, none⟩ = some (.slice B la.length cB) ∧ wx.cell? ⟨g1, 4, none⟩ = some (.bool false) ∧
                  wx.cell? ⟨g2, 0, none⟩ = some (.int .i64 xp) ∧ wx.cell? ⟨g2, 1, none⟩ = some (.int .i64 xa) ∧ wx.cell? ⟨g2, 2, none⟩ = some (.int .i64 xs) ∧ wx.cell? ⟨g2, 3, none⟩ = some (.slice B6 lb.length cB6) ∧ wx.cell? ⟨g2, 4, none⟩ = some (.bool false))
                case first =>
                  go_region_held3 (fun w' => w'.cell? ⟨w2.heap.size, 0, none⟩ = some (.slice (some ⟨g, of, none⟩) M.length c5) ∧ w'.cell? ⟨w6.heap.size, 0, none⟩ = some (.slice (some ⟨g6, of6, none⟩) M'.length c6) ∧
                    w'.cell? ⟨g, of + j * 5, none⟩ = some (.int .i64 xp) ∧ w'.cell? ⟨g, of + j * 5 + 1, none⟩ = some (.int .i64 xa) ∧ w'.cell? ⟨g, of + j * 5 + 2, none⟩ = some (.int .i64 xs) ∧ w'.cell? ⟨g, of + j * 5 + 3, none⟩ = some (.slice B la.length cB) ∧ w'.cell? ⟨g, of + j * 5 + 4, none⟩ = some (.bool false) ∧
                    w'.cell? ⟨g6, of6 + j * 5, none⟩ = some (.int .i64 xp) ∧ w'.cell? ⟨g6, of6 + j * 5 + 1, none⟩ = some (.int .i64 xa) ∧ w'.cell? ⟨g6, of6 + j * 5 + 2, none⟩ = some (.int .i64 xs) ∧ w'.cell? ⟨g6, of6 + j * 5 + 3, none⟩ = some (.slice B6 lb.length cB6) ∧ w'.cell? ⟨g6, of6 + j * 5 + 4, none⟩ = some (.bool false)) (go_keep) (fail)
                  all_goals (go_wp2_with fail)
                  all_goals go_meet
                  all_goals
                    refine ⟨_, _, rfl, rfl, ?_, by simp <;> omega, by simp <;> omega, ?_, ?_, ?_, ?_, ?_, ?_, ?_, ?_, ?_, ?_⟩
                    · first
                        | exact (((Below.refl _ _).alloc (Nat.le_refl _) _).alloc (by simp) _).drew
                        | exact (((Below.refl _ _).drew.alloc (Nat.le_refl _) _).alloc (by simp) _)
                    all_goals first
                      | (rw [World.cell?_drew, World.cell?_alloc_lt _ _ _ (by simp), World.cell?_alloc_at _ _ _ _ rfl]; rfl)
                      | (rw [World.cell?_drew, World.cell?_alloc_at _ _ _ _ (by simp)]; rfl)
                case rest =>
                  obtain ⟨g1, g2, rfl, rfl, hbx, hg1, hg2, a0, a1, a2, a3, a4, b0, b1, b2, b3, b4⟩ := hcut
                  have HBX := Lib.hid hbx
                  have hbxs := hbx.size
                  clear hbx p0 p1 p2 p3 p4 z0 z1 z2 z3 z4 y8 y11 n8 n11 np nq
                  go_wp2_with fail
                  have hRl := HL.out.2.1.1
                  have hRm := HL.out.2.1.2.1
                  have hRl' := HL.out.2.2.1
                  have hRm' := HL.out.2.2.2.1
                  unfold maxLen at hRm hRm'
                  go_loopw [17, 18] (fun i _ wr' => ∃ m : Nat, m ≤ la.length ∧ i = .int .i64 m ∧ Below wc.heap.size wc wr') (fun i _ _ => la.length - (intOf i).toNat)
                  case atStart => exact ⟨0, Nat.zero_le _, rfl, Below.refl _ _⟩
                  case round =>
                    obtain ⟨m, hm, rfl, hb'⟩ := hrel
                    have a3 := (hb'.cell (p := ⟨g1, _, none⟩) hg1).trans a3
                    have b3 := (hb'.cell (p := ⟨g2, _, none⟩) hg2).trans b3
                    have HQ := Lib.hid hb'
                    have hbs' := hb'.size
                    clear hb'
                    by_cases hml : m < la.length
                    · obtain ⟨x, hx⟩ : ∃ x, la[m]? = some x := ⟨_, List.getElem?_eq_getElem hml⟩
                      obtain ⟨g3, o3, rfl, _, ⟨cu3, hcu3⟩, s0, s1, s2⟩ := HL.out.2.1.2.2 m x hx
                      have hg3 := lt_of_heap hcu3
                      have hbz := Lib.hid (HB.out.trans ((HBX.out.trans (HQ.out.mono (by omega))).mono (by omega)))
                      replace s0 := (hbz.out.cell (p := ⟨g3, _, none⟩) hg3).trans s0
                      replace s1 := (hbz.out.cell (p := ⟨g3, _, none⟩) hg3).trans s1
                      replace s2 := (hbz.out.cell (p := ⟨g3, _, none⟩) hg3).trans s2
                      have HIS := Lib.hid (HL.out.1 m x hx)
                      clear hcu3 hx
                      by_cases hmb : m < lb.length
                      · obtain ⟨y, hy⟩ : ∃ y, lb[m]? = some y := ⟨_, List.getElem?_eq_getElem hmb⟩
                        obtain ⟨g4, o4, rfl, _, ⟨cu4, hcu4⟩, t0, t1, t2⟩ := HL.out.2.2.2.2 m y hy
                        have hg4 := lt_of_heap hcu4
                        replace t0 := (hbz.out.cell (p := ⟨g4, _, none⟩) hg4).trans t0
                        replace t1 := (hbz.out.cell (p := ⟨g4, _, none⟩) hg4).trans t1
                        replace t2 := (hbz.out.cell (p := ⟨g4, _, none⟩) hg4).trans t2
                        have hd1 : decide (m < lb.length) = true := decide_eq_true hmb
                        have i1 : (0 : Int) ≤ (m : Int) := by omega
                        have i2 : (m : Int) < (lb.length : Int) := by omega
                        have i3 : (m : Int) < (la.length : Int) := by omega
                        rcases HIS.out.1 y hy with ⟨rfl, hne⟩ | ⟨hxk, ea, es, ec⟩
                        · have hb1 : (y.c == k) = false := by rw [beq_eq_false_iff_ne]; exact hne
                          clear hcu4 hy hne
                          generalize y.a = ya at *
                          generalize y.s = ys at *
                          generalize y.c = yc at *
                          go_wp2_with fail
                          go_quiet (fail)
                          go_wp2
                          go_roundw
                          case rel => exact ⟨m + 1, by omega, by go_num, below_drewN HQ.out _⟩
                          case measure => simp [intOf]; omega
                        · rw [ea] at t0
                          rw [es] at t1
                          rw [ec] at t2
                          rw [hxk] at s2
                          have hb1 : (k == -2) = false := by rw [beq_eq_false_iff_ne]; omega
                          have hb2 : (k == k) = true := by simp
                          clear hcu4 hy hxk ea es ec
                          generalize x.a = ya at *
                          generalize x.s = ys at *
                          go_wp2_with fail
                          go_quiet (fail)
                          go_wp2
                          go_roundw
                          case rel => exact ⟨m + 1, by omega, by go_num, below_drewN HQ.out _⟩
                          case measure => simp [intOf]; omega
                      · have hd1 : decide (m < lb.length) = false := decide_eq_false hmb
                        have i1 : (0 : Int) ≤ (m : Int) := by omega
                        have i3 : (m : Int) < (la.length : Int) := by omega
                        rcases HIS.out.2 (by omega) with hxk | hxh
                        · rw [hxk] at s2
                          clear hxk
                          go_wp2_with fail
                          go_quiet (fail)
                          go_wp2
                          go_roundw
                          case rel => exact ⟨m + 1, by omega, by go_num, below_drewN HQ.out _⟩
                          case measure => simp [intOf]; omega
                        · rw [hxh] at s2
                          have hb1 : ((-2 : Int) == k) = false := by rw [beq_eq_false_iff_ne]; omega
                          clear hxh
                          go_wp2_with fail
                          go_quiet (fail)
                          go_wp2
                          go_roundw
                          case rel => exact ⟨m + 1, by omega, by go_num, below_drewN HQ.out _⟩
                          case measure => simp [intOf]; omega
                    · obtain rfl : m = la.length := by omega
                      go_wp2
                      go_roundw
                      case rel => exact ⟨j + 1, by omega, by go_num, HB.out.trans ((HBX.out.trans (HQ.out.mono (by omega))).mono (by omega))⟩
                      case measure => simp [intOf]; omega
      · obtain rfl : j = M.length := by omega
        go_wp2_with (go_at_call 10; refine (awake_ok _).mono ?_; rintro e w8 ⟨rfl, hb8⟩)
        go_ret
        exact ⟨rfl, HX.out.2.2.1.trans ((HB.out.trans (hb8.mono HB.out.size)).mono HX.out.2.2.1.size)⟩
  · have hbv : (v != 0) = true := by simpa using hv
    obtain ⟨hM, hor⟩ := stop_err HX.out.2.2.2.2.1 HX.out.2.2.2.2.2.2.1 hv HX.out.2.2.2.1
    subst hM
    have HSame : Hid (Calls Try.prog 23 #[.agg #[.slice A5 M'.length c5], .agg #[.slice A6 M'.length c6]] (w6.alloc (.cells #[.slice A6 M'.length c6] 28)) fun e w' => e = .returned (.bool true) ∧ Below (w6.alloc (.cells #[.slice A6 M'.length c6] 28)).heap.size (w6.alloc (.cells #[.slice A6 M'.length c6] 28)) w') := Lib.hid (by
      have := same_ok (w6.alloc (.cells #[.slice A6 M'.length c6] 28)) (fun _ => True) (fun _ => True) A5 A6 c5 c6 (save M') HX.out.1 HX.out.2.1
      rw [hsl] at this
      exact this)
    rcases hor with rfl | ⟨rfl, rfl⟩
    · clear hv
      go_wp2_with (first
        | (go_at_call 23; refine HSame.out.mono ?_; rintro e w7 ⟨rfl, hb7⟩; have HB7 := Lib.hid hb7; clear hb7)
        | (go_at_call 10; refine (awake_ok _).mono ?_; rintro e w8 ⟨rfl, hb8⟩))
      go_ret
      exact ⟨rfl, HX.out.2.2.1.trans ((HB7.out.trans (hb8.mono HB7.out.size)).mono HX.out.2.2.1.size)⟩
    · clear hv
      by_cases hk0 : k = 0
      · have hkb : (k == 0) = true := by simpa using hk0
        clear hk0
        go_wp2_with (first
          | (go_at_call 23; refine HSame.out.mono ?_; rintro e w7 ⟨rfl, hb7⟩; have HB7 := Lib.hid hb7; clear hb7)
          | (go_at_call 10; refine (awake_ok _).mono ?_; rintro e w8 ⟨rfl, hb8⟩))
        go_ret
        exact ⟨rfl, HX.out.2.2.1.trans ((HB7.out.trans (hb8.mono HB7.out.size)).mono HX.out.2.2.1.size)⟩
      · have hkb : (k == 0) = false := by simpa using hk0
        clear hk0
        go_wp2_with (first
          | (go_at_call 23; refine HSame.out.mono ?_; rintro e w7 ⟨rfl, hb7⟩; have HB7 := Lib.hid hb7; clear hb7)
          | (go_at_call 10; refine (awake_ok _).mono ?_; rintro e w8 ⟨rfl, hb8⟩))
        go_ret
        exact ⟨rfl, HX.out.2.2.1.trans ((HB7.out.trans (hb8.mono HB7.out.size)).mono HX.out.2.2.1.size)⟩
end Ne
end Go.Proofs.Ytllmddhahpegmaa
