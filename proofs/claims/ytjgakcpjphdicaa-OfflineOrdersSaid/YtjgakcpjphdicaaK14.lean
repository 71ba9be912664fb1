/- The specification: Lay, before. The specification: Quick. -/
import Derived.Test.YtjgakcpjphdicaaK13
import Derived.Test.YtjgakcpjphdicaaK9
namespace Go.Proofs.Ytjgakcpjphdicaa
open Go.RowKit
namespace Of

/-- A call that lays: what it says. -/
def Laid (w : World) (L : List OB) (o : List Nat) (e : Ending) (w' : World) : Prop :=
  ∃ ga, e = .returned (.tuple #[.slice (some ⟨ga, 0, none⟩) L.length L.length, .int .i64 (lays L o).T, .int .i64 0]) ∧ RowI 2 w' ga (lays L o).A ∧ w.heap.size ≤ ga ∧ Below w.heap.size w w'
def LaidNo (w : World) (x : Int) (e : Ending) (w' : World) : Prop := e = .returned (.tuple #[.slice none 0 0, .int .i64 0, .int .i64 x]) ∧ Below w.heap.size w w'
/-- What Lay says. -/
structure LayOut (w : World) (L : List OB) (M : List Int) (e : Ending) (w' : World) : Prop where
  bad : checkV L ≠ 0 → LaidNo w (checkV L) e w'
  no : checkV L = 0 → isOrd L.length M = false → LaidNo w 2 e w'
  yes : checkV L = 0 → ∀ o, M = zsP o → Ord L.length o → o.length = L.length → Laid w L o e w'

set_option maxRecDepth 100000 in
set_option maxHeartbeats 4000000 in
theorem LayR_ok (w : World) (lA : Option Addr) (lc : Nat) (L : List OB) (A : Option Addr) (c : Nat) (M : List Int) (hl : OBAt w lA lc L) (hm : IAt w A c M) :
    Calls Try.prog 29 #[.slice lA L.length lc, .slice A M.length c] w (LayOut w L M) := by
  have hck := checkR_ok lA lc L w hl
  rcases checkV_cases L with hv | hv | hv
  · have hL := (checkV_ok L).1 hv
    have hor := fun W (hb : Below w.heap.size w W) => orderR_ok W A c M L.length (hm.below hb (Nat.le_refl _)) (by have := hL.1; omega)
    rw [hv] at hck
    have HC := Lib.hid hck
    have HV := Lib.hid hv
    cases ho : isOrd L.length M with
    | false =>
      rw [ho] at hor
      have HO := Lib.hid hor
      have HF := Lib.hid ho
      have fin : ∀ (e : Ending) (w' : World), LaidNo w 2 e w' → LayOut w L M e w' := fun e w' h => ⟨fun h2 => absurd HV.out h2, fun _ _ => h, fun _ o e1 e2 e3 => by
        have : isOrd L.length M = true := isOrd_iff.2 ⟨o, e1, e2, e3⟩
        rw [HF.out] at this; cases this⟩
      have HFIN := Lib.hid fin
      clear hck hL hv hor ho hl hm fin
      go_enter Try.func29, Try.ntmps29
      go_wp2_with (first
        | (go_at_call 20; refine HC.out.mono ?_; rintro e w1 ⟨rfl, hb1⟩; have HB1 := Lib.hid hb1; clear hb1)
        | (go_at_call 22; refine (HO.out _ HB1.out).mono ?_; rintro e w2 ⟨rfl, hb2⟩; have HB2 := Lib.hid hb2; clear hb2))
      go_ret3
      exact HFIN.out _ _ ⟨rfl, HB1.out.trans (HB2.out.mono HB1.out.size)⟩
    | true =>
      rw [ho] at hor
      have HO := Lib.hid hor
      obtain ⟨o, rfl, hO, hol⟩ := isOrd_iff.1 ho
      have hly := fun W (hb : Below w.heap.size w W) => layR_ok W lA lc L A c o (hl.below hb (Nat.le_refl _)) (hm.below hb (Nat.le_refl _)) hL hO
      rw [List.length_map]
      have fin : ∀ (e : Ending) (w' : World), Laid w L o e w' → LayOut w L (zsP o) e w' := fun e w' h => ⟨fun h2 => absurd HV.out h2, fun _ h2 => (by rw [ho] at h2; cases h2), fun _ o' e1 _ _ => by
        obtain rfl : o = o' := (List.map_inj_right (fun a b e => by have e : (a : Int) = (b : Int) := e; omega)).1 e1
        exact h⟩
      have HFIN := Lib.hid fin
      have HLY := Lib.hid hly
      have HOL := Lib.hid hol
      rw [List.length_map] at HO
      clear hck hL hv hor ho hl hm fin hly hol hO
      go_enter Try.func29, Try.ntmps29
      go_wp2_with (first
        | (go_at_call 20; refine HC.out.mono ?_; rintro e w1 ⟨rfl, hb1⟩; have HB1 := Lib.hid hb1; clear hb1)
        | (go_at_call 22; refine (HO.out _ HB1.out).mono ?_; rintro e w2 ⟨rfl, hb2⟩; have HB2 := Lib.hid (HB1.out.trans (hb2.mono HB1.out.size)); clear hb2)
        | (go_at_call 37; refine (HLY.out _ HB2.out).mono ?_; rintro e w3 ⟨ga, rfl, hr, hg, hb3⟩; have HB3 := Lib.hid (And.intro hr (And.intro hg (HB2.out.trans (hb3.mono HB2.out.size)))); clear hr hg hb3))
      go_ret3
      exact HFIN.out _ _ ⟨ga, rfl, HB3.out.1, Nat.le_trans HB2.out.size HB3.out.2.1, HB3.out.2.2⟩
  all_goals
    rw [hv] at hck
    have HC := Lib.hid hck
    have fin : ∀ (e : Ending) (w' : World), LaidNo w (checkV L) e w' → LayOut w L M e w' := fun e w' h => ⟨fun _ => h, fun h2 => by omega, fun h2 => by omega⟩
    rw [hv] at fin
    have HFIN := Lib.hid fin
    clear hck hv hl hm fin
    go_enter Try.func29, Try.ntmps29
    go_wp2_with (go_at_call 20; refine HC.out.mono ?_; rintro e w1 ⟨rfl, hb1⟩; have HB1 := Lib.hid hb1; clear hb1)
    go_ret3
    exact HFIN.out _ _ ⟨rfl, HB1.out⟩

/-- Is a block laid before another one in the quick layout? -/
def before (L : List OB) (a b : Nat) : Bool :=
  if (blk L a).f ≠ (blk L b).f then decide ((blk L a).f < (blk L b).f) else if (blk L a).s ≠ (blk L b).s then decide ((blk L b).s < (blk L a).s) else decide (a < b)
set_option maxRecDepth 100000 in
set_option maxHeartbeats 4000000 in
theorem before_ok (w : World) (lA : Option Addr) (lc : Nat) (L : List OB) (a b : Nat) (hl : OBAt w lA lc L) (ha : a < L.length) (hb : b < L.length) :
    Calls Try.prog 58 #[.slice lA L.length lc, .int .i64 (a : Int), .int .i64 (b : Int)] w fun e w' => e = .returned (.bool (before L a b)) ∧ ∃ q, w' = w.drewN q := by
  have hcap := hl.2.1
  have hlc := hl.1
  unfold maxLen at hcap
  obtain ⟨g, o, rfl, hg, x0, x1, x2, x3⟩ := hl.at ha
  obtain ⟨g2, o2, e, _, y0, y1, y2, y3⟩ := hl.at hb
  injection e with e; injection e with e1 e2 _
  subst e1; subst e2
  have hbe : before L a b = if (blk L a).f ≠ (blk L b).f then decide ((blk L a).f < (blk L b).f) else if (blk L a).s ≠ (blk L b).s then decide ((blk L b).s < (blk L a).s) else decide (a < b) := rfl
  clear hl x1 x3 y1 y3
  generalize blk L a = A at *
  generalize blk L b = B at *
  obtain ⟨s, al, f, u⟩ := A
  obtain ⟨ks, ka, kf, ku⟩ := B
  dsimp only at x0 x2 y0 y2 hbe
  have HB := Lib.hid hbe
  clear hbe
  have ea : (a : Int) < (L.length : Int) := by omega
  have eb : (b : Int) < (L.length : Int) := by omega
  by_cases h1 : f = kf
  · subst h1
    have t1 : (f != f) = false := by simp
    by_cases h2 : s = ks
    · subst h2
      have t2 : (s != s) = false := by simp
      go_enter Try.func58, Try.ntmps58
      go_wp2_with (fail)
      go_quiet (fail)
      go_wp2_with (fail)
      go_quiet (fail)
      go_wp2
      go_ret
      exact ⟨by rw [HB.out, if_neg (by simp), if_neg (by simp)]; exact congrArg (fun x => Ending.returned (.bool x)) (by simp), ⟨_, by first | rfl | exact World.drewN_drewN ..⟩⟩
    · have t2 : (s != ks) = true := by simp [h2]
      go_enter Try.func58, Try.ntmps58
      go_wp2_with (fail)
      go_quiet (fail)
      go_wp2_with (fail)
      go_quiet (fail)
      go_wp2_with (fail)
      go_quiet (fail)
      go_wp2
      go_ret
      exact ⟨by rw [HB.out, if_neg (by simp), if_pos h2]; rfl, ⟨_, by first | rfl | (rw [World.drewN_drewN]; exact World.drewN_drewN ..)⟩⟩
  · have t1 : (f != kf) = true := by simp [h1]
    go_enter Try.func58, Try.ntmps58
    go_wp2_with (fail)
    go_quiet (fail)
    go_wp2_with (fail)
    go_quiet (fail)
    go_wp2
    go_ret
    exact ⟨by rw [HB.out, if_pos h1]; rfl, ⟨_, by first | rfl | exact World.drewN_drewN ..⟩⟩
end Of
end Go.Proofs.Ytjgakcpjphdicaa
namespace Go.Proofs.Ytjgakcpjphdicaa
open Go.RowKit
namespace Of

/-- Where a block is laid in the quick order. -/
def qk (L : List OB) (o : List Nat) (i : Nat) : Nat → Nat
  | 0 => 0
  | k + 1 => if before L i (o.getD k 0) then qk L o i k else k + 1
theorem qk_le (L : List OB) (o : List Nat) (i : Nat) : ∀ k, qk L o i k ≤ k
  | 0 => Nat.le_refl _
  | k + 1 => by
    unfold qk
    split
    · exact Nat.le_succ_of_le (qk_le L o i k)
    · exact Nat.le_refl _
def insK (o : List Nat) (i k : Nat) : List Nat := o.take k ++ [i] ++ o.drop k
def qord (L : List OB) : Nat → List Nat
  | 0 => []
  | n + 1 => insK (qord L n) n (qk L (qord L n) n (qord L n).length)
theorem qord_ord (L : List OB) : ∀ n, Ord n (qord L n) ∧ (qord L n).length = n
  | 0 => ⟨⟨List.nodup_nil, fun i hi => by cases hi⟩, rfl⟩
  | n + 1 => by
    obtain ⟨h1, h2⟩ := qord_ord L n
    unfold qord insK
    generalize qk L (qord L n) n (qord L n).length = k
    generalize qord L n = o at *
    have hn : n ∉ o := fun h => by have := h1.2 n h; omega
    refine ⟨⟨?_, fun i hi => ?_⟩, ?_⟩
    · have hp : (o.take k ++ [n] ++ o.drop k).Perm (n :: o) := by
        rw [List.append_assoc, List.singleton_append]
        refine List.perm_middle.trans ?_
        rw [List.take_append_drop]
      exact hp.nodup_iff.2 (List.nodup_cons.2 ⟨hn, h1.1⟩)
    · rcases mem_ins.1 hi with rfl | h
      · omega
      · have := h1.2 i h; omega
    · simp only [List.length_append, List.length_take, List.length_drop, List.length_cons, List.length_nil]; omega

def opB38 : Op := .buildSlice 25 0 #[]
def opB44 : Op := .buildSlice 25 1 #[(0, .tmp 43)]

/-- The list while the quick order is made. -/
structure QS (w wr : World) (A : Option Addr) (c : Nat) (o : List Nat) : Prop where
  row : OwnI wr w.heap.size 3 A c (zsP o)
  below : Below w.heap.size w wr
theorem QS.step {w wr w' : World} {A : Option Addr} {c : Nat} {o : List Nat} (h : QS w wr A c o) (hb : Below wr.heap.size wr w') : QS w w' A c o := ⟨row_below h.row hb, h.below.trans (hb.mono h.below.size)⟩

set_option maxRecDepth 100000 in
set_option maxHeartbeats 4000000 in
theorem QuickR_ok (w : World) (lA : Option Addr) (lc : Nat) (L : List OB) (hl : OBAt w lA lc L) :
    Calls Try.prog 30 #[.slice lA L.length lc] w fun e w' => (checkV L ≠ 0 → LaidNo w (checkV L) e w') ∧ (checkV L = 0 → Laid w L (qord L L.length) e w') := by
  have hck := checkR_ok lA lc L w hl
  rcases checkV_cases L with hv | hv | hv
  · have hL := (checkV_ok L).1 hv
    rw [hv] at hck
    have HC := Lib.hid hck
    have fin : ∀ (e : Ending) (w' : World), Laid w L (qord L L.length) e w' → (checkV L ≠ 0 → LaidNo w (checkV L) e w') ∧ (checkV L = 0 → Laid w L (qord L L.length) e w') := fun e w' h => ⟨fun h2 => absurd hv h2, fun _ => h⟩
    have HFIN := Lib.hid fin
    have hlen := hL.1
    have hcap := hl.2.1
    have hlc := hl.1
    unfold maxLen at hcap
    have HH := Lib.hid (And.intro hl hL)
    have hbf := fun W (hb : Below w.heap.size w W) (a b : Nat) ha hb2 => before_ok W lA lc L a b (hl.below hb (Nat.le_refl _)) ha hb2
    have HBF := Lib.hid hbf
    clear hck hv fin hl hL hbf
    generalize hPost : (fun (e : Ending) (w' : World) => (checkV L ≠ 0 → LaidNo w (checkV L) e w') ∧ (checkV L = 0 → Laid w L (qord L L.length) e w')) = Post
    have HPOST := Lib.hid hPost
    clear hPost
    go_enter Try.func30, Try.ntmps30
    go_upto_region 4 with (go_at_call 20; refine HC.out.mono ?_; rintro e w1 ⟨rfl, hb1⟩; have HB1 := Lib.hid hb1; clear hb1)
    have HQ0 := Lib.hid (⟨own_nil w1 _ _, HB1.out⟩ : QS w w1 none 0 [])
    go_wp2_with (fail)
    go_loopw [6, 7] (fun s i wr => ∃ (k : Nat) (A : Option Addr) (c : Nat), k ≤ L.length ∧ i = .int .i64 k ∧ s = .slice A k c ∧ QS w wr A c (qord L k)) (fun _ i _ => L.length - (intOf i).toNat)
    case atStart => exact ⟨0, none, 0, Nat.zero_le _, rfl, rfl, HQ0.out⟩
    case round =>
      obtain ⟨i, A, c, hi, rfl, rfl, hq⟩ := hrel
      by_cases hlt : i < L.length
      · obtain ⟨hO, hol⟩ := qord_ord L i
        have hrow := hq.row
        have hia := (OwnI.at hrow).1
        have hic := hia.1
        rw [List.length_map, hol] at hic
        have hicm := hia.2.1
        unfold maxLen at hicm
        have hnx : qord L (i + 1) = insK (qord L i) i (qk L (qord L i) i i) := by
          have e : qord L (i + 1) = insK (qord L i) i (qk L (qord L i) i (qord L i).length) := rfl
          rw [hol] at e; exact e
        have hin : ∀ x, x ∈ qord L i → x < i := hO.2
        have HX := Lib.hid (And.intro hol (And.intro hnx (And.intro hq hin)))
        clear hO hol hrow hia hnx hq hin
        generalize hoo : qord L i = o at *
        have HOO := Lib.hid hoo
        clear hoo
        rcases (show A = none ∨ ∃ g, A = some ⟨g, 0, none⟩ from by
          rcases HX.out.2.2.1.row.2 with ⟨hv, _⟩ | ⟨g', _, _, hv, _⟩
          · injection hv with hv _ _; exact .inl hv
          · injection hv with hv _ _; exact .inr ⟨g', hv⟩) with rfl | ⟨g, rfl⟩
        · have hnil := OwnI.nil HX.out.2.2.1.row rfl
          obtain ⟨hc0, ho0⟩ := hnil
          have ho0 : o = [] := by
            cases o with
            | nil => rfl
            | cons x o => cases ho0
          subst hc0; subst ho0
          have hi0 : i = 0 := by have := HX.out.1; simpa using this.symm
          subst hi0
          go_wp2_with (fail)
          go_loopw [8] (fun kk wr => kk = .int .i64 0 ∧ QS w wr none 0 []) (fun _ _ => 0)
          case atStart => exact ⟨rfl, HX.out.2.2.1⟩
          case round =>
            obtain ⟨rfl, hq2⟩ := hrel
            have HQ2 := Lib.hid hq2
            clear hq2
            go_upto_region 11 with (fail)
            have S0 : Below wr.heap.size wr wr.drew := below_drew (Below.refl _ _)
            have S38 : Below wr.heap.size wr (wr.alloc c0).drew := below_drew (below_box _ _)
            have S44 : Below wr.heap.size wr (wr.alloc (c1 (0 : Int))).drew := below_drew (below_box _ _)
            have SA : Below wr.heap.size wr ((wr.alloc c0).alloc (c1 (0 : Int))).drew := below_drew ((below_box _ _).trans ((below_box _ _).mono (by simp)))
            have SB : Below wr.heap.size wr ((wr.alloc (c1 (0 : Int))).alloc c0).drew := below_drew ((below_box _ _).trans ((below_box _ _).mono (by simp)))
            have TA := Lib.hid (two_a wr (0 : Int)).drew
            have TB := Lib.hid (two_b wr (0 : Int)).drew
            have OC := Lib.hid (show OwnI (wr.alloc c0).drew wr.heap.size 3 (some ⟨wr.heap.size, 0, none⟩) 0 [] from own_new wr)
            go_region_held3 (fun w' => Below wr.heap.size wr w')
              (first | (with_reducible exact S0) | (with_reducible exact S38) | (with_reducible exact S44) | (with_reducible exact SA) | (with_reducible exact SB) | (with_reducible exact S3) | (with_reducible exact S3C) | (with_reducible exact S4) | (with_reducible exact S5) | go_keep)
              (first
                | (refine step_own ?_ (.tmp 45) (.tmp 48) ?_ wr.heap.size A5 c5 [(0 : Int)] ?_ H45.out none 0 [] ?_ (iat_nil _) (fun _ => rfl) (Nat.le_of_ble_eq_true rfl) S4.size ?_
                   (exact rfl)
                   (exact rfl)
                   (exact rfl)
                   (exact rfl)
                   intro A9 c9 w9 h9 b9
                   rw [List.append_nil] at h9 ⊢
                   have S5 : Below wr.heap.size wr w9 := S4.trans b9
                   have H49 := Lib.hid (And.intro h9 S5)
                   clear h9 b9)
                | (refine step_own ?_ (.tmp 42) (.tmp 44) ?_ wr.heap.size A4 c4 [] ?_ HT1.out.row (some ⟨_, 0, none⟩) 1 [(0 : Int)] ?_ HT1.out.one (fun h => by cases h) (Nat.le_of_ble_eq_true rfl) S3T.size ?_
                   (exact rfl)
                   (exact rfl)
                   (exact rfl)
                   (exact rfl)
                   intro A5 c5 w5 h5 b5
                   rw [List.nil_append] at h5 ⊢
                   have S4 : Below wr.heap.size wr w5 := S3T.trans b5
                   have H45 := Lib.hid h5
                   clear h5 b5)
                | (refine step_two ?_ (.tmp 38) (.tmp 41) ?_ wr.heap.size (some ⟨wr.heap.size, 0, none⟩) 0 [] (wr.heap.size + 1) (0 : Int) ?_ TA.out none 0 [] ?_ (iat_nil _) (fun _ => rfl) (Nat.le_of_ble_eq_true rfl) SA.size ?_
                   (exact rfl)
                   (exact rfl)
                   (exact rfl)
                   (exact rfl)
                   intro A4 c4 w4 h4 b4
                   rw [List.nil_append] at h4 ⊢
                   have S3 : Below wr.heap.size wr w4 := SA.trans b4
                   have S3T := S3
                   have HT1 := Lib.hid h4
                   clear h4 b4)
                | (refine step_two ?_ (.tmp 38) (.tmp 41) ?_ wr.heap.size (some ⟨wr.heap.size + 1, 0, none⟩) 0 [] wr.heap.size (0 : Int) ?_ TB.out none 0 [] ?_ (iat_nil _) (fun _ => rfl) (Nat.le_of_ble_eq_true rfl) SB.size ?_
                   (exact rfl)
                   (exact rfl)
                   (exact rfl)
                   (exact rfl)
                   intro A4 c4 w4 h4 b4
                   rw [List.nil_append] at h4 ⊢
                   have S3 : Below wr.heap.size wr w4 := SB.trans b4
                   have S3T := S3
                   have HT1 := Lib.hid h4
                   clear h4 b4)
                | (refine step_own ?_ (.tmp 38) (.tmp 41) ?_ wr.heap.size (some ⟨wr.heap.size, 0, none⟩) 0 [] ?_ OC.out none 0 [] ?_ (iat_nil _) (fun _ => rfl) (Nat.le_of_ble_eq_true rfl) S38.size ?_
                   (exact rfl)
                   (exact rfl)
                   (exact rfl)
                   (exact rfl)
                   intro A4 c4 w4 h4 b4
                   rw [List.nil_append] at h4 ⊢
                   have S3 : Below wr.heap.size wr w4 := S38.trans b4
                   have S3C : Below wr.heap.size wr (w4.alloc (c1 (0 : Int))) := S3.alloc S3.size _
                   have S3T := S3C
                   have HT1 := Lib.hid (two_c (w := wr) (0 : Int) h4)
                   clear h4 b4))
            all_goals
              go_wp2
              go_roundw
              case rel => exact ⟨1, A9, c9, by omega, by go_num, rfl, ⟨row_low H49.out.1 HQ2.out.below.size, HQ2.out.below.trans (H49.out.2.mono HQ2.out.below.size)⟩⟩
              case measure => simp [intOf]; omega
        go_wp2_with (fail)
        go_loopw [8] (fun kk wr => ∃ k : Nat, k ≤ i ∧ kk = .int .i64 k ∧ qk L o i i = qk L o i k ∧ QS w wr (some ⟨g, 0, none⟩) c o) (fun kk _ => (intOf kk).toNat)
        case atStart => exact ⟨i, Nat.le_refl _, rfl, rfl, HX.out.2.2.1⟩
        case round =>
          obtain ⟨k, hk, rfl, hqk, hq2⟩ := hrel
          have HQ2 := Lib.hid hq2
          by_cases h0 : k = 0
          · have hqz : qk L o i i = k := by rw [hqk, h0]; rfl
            have HQK := Lib.hid hqz
            have h00 : ¬ (0 : Int) < (k : Int) := by omega
            clear hqk hqz hq2 h0
            go_upto_region 11 with (fail)
            have ek : (k : Int) ≤ (i : Int) := by omega
            have ekc : (k : Int) ≤ (c : Int) := by omega
            have ek0 : (0 : Int) ≤ (k : Int) := by omega
            obtain ⟨M1, hM1⟩ : ∃ M, M = zsP (o.take k) := ⟨_, rfl⟩
            obtain ⟨M2, hM2⟩ : ∃ M, M = zsP (o.drop k) := ⟨_, rfl⟩
            have hl1 : M1.length = k := by rw [hM1, List.length_map, List.length_take, HX.out.1]; omega
            have hl2 : M2.length = i - k := by rw [hM2, List.length_map, List.length_drop, HX.out.1]
            obtain ⟨X2, hX2⟩ : ∃ M, M = M1 ++ [(i : Int)] := ⟨_, rfl⟩
            obtain ⟨X3, hX3⟩ : ∃ M, M = X2 ++ M2 := ⟨_, rfl⟩
            have hl3 : X2.length = k + 1 := by rw [hX2, List.length_append, hl1]; rfl
            have hl4 : X3.length = i + 1 := by rw [hX3, List.length_append, hl3, hl2]; omega
            have hI := (OwnI.at HQ2.out.row).1
            have hs1 : IAt wr (some ⟨g, 0, none⟩) c M1 := by
              have := hI.take k c (by rw [List.length_map, HX.out.1]; omega) (by unfold maxLen; omega)
              rw [hM1]; unfold zsP at this ⊢; rw [List.map_take]; exact this
            have hs2 : IAt wr (if c = k then some ⟨g, 0, none⟩ else some ⟨g, k, none⟩) (c - k) M2 := by
              by_cases hck : c = k
              · have h0 : M2 = [] := List.length_eq_zero_iff.1 (by rw [hl2]; omega)
                rw [if_pos hck, h0]
                exact ⟨Nat.zero_le _, by unfold maxLen; omega, fun q x hx => by simp at hx⟩
              · rw [if_neg hck]
                have := hI.drop (k := k) (by rw [List.length_map, HX.out.1]; exact hk)
                rw [Nat.zero_add] at this
                rw [hM2]; unfold zsP at this ⊢; rw [List.map_drop]; exact this
            have HM := Lib.hid (And.intro hs1 (And.intro hs2 (And.intro hl1 (And.intro hl2 (And.intro hX2 (And.intro hX3 (And.intro hl3 (And.intro hl4 (And.intro hM1 hM2)))))))))
            clear hs1 hs2 hl1 hl2 hX2 hX3 hl3 hl4 hM1 hM2 hI
            have hii : i ≤ 500 := by omega
            have S0 : Below wr.heap.size wr wr.drew := below_drew (Below.refl _ _)
            have S38 : Below wr.heap.size wr (wr.alloc c0).drew := below_drew (below_box _ _)
            have S44 : Below wr.heap.size wr (wr.alloc (c1 (i : Int))).drew := below_drew (below_box _ _)
            have SA : Below wr.heap.size wr ((wr.alloc c0).alloc (c1 (i : Int))).drew := below_drew ((below_box _ _).trans ((below_box _ _).mono (by simp)))
            have SB : Below wr.heap.size wr ((wr.alloc (c1 (i : Int))).alloc c0).drew := below_drew ((below_box _ _).trans ((below_box _ _).mono (by simp)))
            have TA := Lib.hid (two_a wr (i : Int)).drew
            have TB := Lib.hid (two_b wr (i : Int)).drew
            have OC := Lib.hid (show OwnI (wr.alloc c0).drew wr.heap.size 3 (some ⟨wr.heap.size, 0, none⟩) 0 [] from own_new wr)
            go_region_held3 (fun w' => Below wr.heap.size wr w')
              (first | (with_reducible exact S0) | (with_reducible exact S38) | (with_reducible exact S44) | (with_reducible exact SA) | (with_reducible exact SB) | (with_reducible exact S3) | (with_reducible exact S3C) | (with_reducible exact S4) | (with_reducible exact S5) | go_keep)
              (first
                | (refine step_own ?_ (.tmp 45) (.tmp 48) ?_ wr.heap.size A5 c5 X2 ?_ H45.out (if c = k then some ⟨g, 0, none⟩ else some ⟨g, k, none⟩) (c - k) M2 ?_ (HM.out.2.1.below S4 (Nat.le_refl _)) (fun h => absurd h (ite_ne_none _ _ _)) (by rw [HM.out.2.2.2.2.2.2.1, HM.out.2.2.2.1]; omega) S4.size ?_
                   (exact rfl)
                   (exact rfl)
                   (exact rfl)
                   (rw [HM.out.2.2.2.1]; exact rfl)
                   intro A9 c9 w9 h9 b9
                   rw [← HM.out.2.2.2.2.2.1] at h9 ⊢
                   have S5 : Below wr.heap.size wr w9 := S4.trans b9
                   have H49 := Lib.hid (And.intro h9 S5)
                   clear h9 b9)
                | (refine step_own ?_ (.tmp 42) (.tmp 44) ?_ wr.heap.size A4 c4 M1 ?_ HT1.out.row (some ⟨_, 0, none⟩) 1 [(i : Int)] ?_ HT1.out.one (fun h => by cases h) (by rw [HM.out.2.2.1]; show k + 1 ≤ 1000000; omega) S3T.size ?_
                   (exact rfl)
                   (exact rfl)
                   (exact rfl)
                   (exact rfl)
                   intro A5 c5 w5 h5 b5
                   rw [← HM.out.2.2.2.2.1] at h5 ⊢
                   have S4 : Below wr.heap.size wr w5 := S3T.trans b5
                   have H45 := Lib.hid h5
                   clear h5 b5)
                | (refine step_two ?_ (.tmp 38) (.tmp 41) ?_ wr.heap.size (some ⟨wr.heap.size, 0, none⟩) 0 [] (wr.heap.size + 1) (i : Int) ?_ TA.out (some ⟨g, 0, none⟩) c M1 ?_ (HM.out.1.below SA (Nat.le_refl _)) (fun h => by cases h) (by rw [HM.out.2.2.1]; show 0 + k ≤ 1000000; omega) SA.size ?_
                   (exact rfl)
                   (exact rfl)
                   (exact rfl)
                   (rw [HM.out.2.2.1]; exact rfl)
                   intro A4 c4 w4 h4 b4
                   rw [List.nil_append] at h4 ⊢
                   have S3 : Below wr.heap.size wr w4 := SA.trans b4
                   have S3T := S3
                   have HT1 := Lib.hid h4
                   clear h4 b4)
                | (refine step_two ?_ (.tmp 38) (.tmp 41) ?_ wr.heap.size (some ⟨wr.heap.size + 1, 0, none⟩) 0 [] wr.heap.size (i : Int) ?_ TB.out (some ⟨g, 0, none⟩) c M1 ?_ (HM.out.1.below SB (Nat.le_refl _)) (fun h => by cases h) (by rw [HM.out.2.2.1]; show 0 + k ≤ 1000000; omega) SB.size ?_
                   (exact rfl)
                   (exact rfl)
                   (exact rfl)
                   (rw [HM.out.2.2.1]; exact rfl)
                   intro A4 c4 w4 h4 b4
                   rw [List.nil_append] at h4 ⊢
                   have S3 : Below wr.heap.size wr w4 := SB.trans b4
                   have S3T := S3
                   have HT1 := Lib.hid h4
                   clear h4 b4)
                | (refine step_own ?_ (.tmp 38) (.tmp 41) ?_ wr.heap.size (some ⟨wr.heap.size, 0, none⟩) 0 [] ?_ OC.out (some ⟨g, 0, none⟩) c M1 ?_ (HM.out.1.below S38 (Nat.le_refl _)) (fun h => by cases h) (by rw [HM.out.2.2.1]; show 0 + k ≤ 1000000; omega) S38.size ?_
                   (exact rfl)
                   (exact rfl)
                   (exact rfl)
                   (rw [HM.out.2.2.1]; exact rfl)
                   intro A4 c4 w4 h4 b4
                   rw [List.nil_append] at h4 ⊢
                   have S3 : Below wr.heap.size wr w4 := S38.trans b4
                   have S3C : Below wr.heap.size wr (w4.alloc (c1 (i : Int))) := S3.alloc S3.size _
                   have S3T := S3C
                   have HT1 := Lib.hid (two_c (w := wr) (i : Int) h4)
                   clear h4 b4))
            all_goals
              go_wp2
              go_roundw
              case rel => exact ⟨i + 1, A9, c9, by omega, by go_num, by rw [HM.out.2.2.2.2.2.2.2.1], ⟨by
                  rw [HX.out.2.1, HQK.out]
                  have h := H49.out.1
                  rw [HM.out.2.2.2.2.2.1, HM.out.2.2.2.2.1, HM.out.2.2.2.2.2.2.2.2.1, HM.out.2.2.2.2.2.2.2.2.2] at h
                  have e : zsP (insK o i k) = zsP (o.take k) ++ [(i : Int)] ++ zsP (o.drop k) := by unfold insK zsP; simp
                  rw [e]
                  exact row_low h HQ2.out.below.size, HQ2.out.below.trans (H49.out.2.mono HQ2.out.below.size)⟩⟩
              case measure => simp [intOf]; omega
          · obtain ⟨j, hj⟩ : ∃ j, k = j + 1 := ⟨k - 1, by omega⟩
            have hoj : o[j]? = some (o.getD j 0) := by rw [List.getD_eq_getElem?_getD, List.getElem?_eq_getElem (by rw [HX.out.1]; omega)]; rfl
            have hjl : o.getD j 0 < L.length := by have := HX.out.2.2.2 _ (List.mem_of_getElem? hoj); omega
            obtain ⟨g', o', eg', hg, ox⟩ := iat_nat (OwnI.at hq2.row).1 hoj
            injection eg' with eg'; injection eg' with eg1 eg2 _
            subst eg1; subst eg2
            rw [Nat.zero_add] at ox
            have hqn : qk L o i k = if before L i (o.getD j 0) then qk L o i j else k := by rw [hj]; rfl
            rw [hqn] at hqk
            generalize o.getD j 0 = y at *
            have hbf := HBF.out wr HQ2.out.below i y hlt hjl
            have hjm : IntKind.i64.wrap ((k : Int) - 1) = (j : Int) := by rw [IntWalk.i64_in _ (by omega)]; omega
            have hjm2 : (k : Int) - 1 = (j : Int) := by omega
            have h01 : (0 : Int) < (k : Int) := by omega
            have ejl : (j : Int) < (i : Int) := by omega
            have hjk : j < k := by omega
            have hji : j ≤ i := by omega
            clear hq2 hoj hqn hj h0
            cases hb : before L i y with
            | true =>
              rw [hb] at hbf hqk
              have HBB := Lib.hid hbf
              have HQK := Lib.hid hqk
              clear hbf hqk hb
              go_wp2_with (go_at_call 58; refine HBB.out.mono ?_; rintro e w5 ⟨rfl, q, rfl⟩)
              go_roundw
              case rel => exact ⟨j, hji, rfl, HQK.out, HQ2.out.step (below_drewN (Below.refl _ _) _)⟩
              case measure => simp [intOf]; omega
            | false =>
              rw [hb] at hbf hqk
              have hqz : qk L o i i = k := hqk
              have HBB := Lib.hid hbf
              have HQK := Lib.hid hqz
              clear hbf hqk hb hqz
              go_upto_region 11 with (go_at_call 58; refine HBB.out.mono ?_; rintro e w5 ⟨rfl, q, rfl⟩)
              have HQ2 := Lib.hid (HQ2.out.step (below_drewN (Below.refl _ _) q))
              clear ox hjm hjm2 h01 ejl hjk hji
              generalize wr.drewN q = wr at *
              have ek : (k : Int) ≤ (i : Int) := by omega
              have ekc : (k : Int) ≤ (c : Int) := by omega
              have ek0 : (0 : Int) ≤ (k : Int) := by omega
              obtain ⟨M1, hM1⟩ : ∃ M, M = zsP (o.take k) := ⟨_, rfl⟩
              obtain ⟨M2, hM2⟩ : ∃ M, M = zsP (o.drop k) := ⟨_, rfl⟩
              have hl1 : M1.length = k := by rw [hM1, List.length_map, List.length_take, HX.out.1]; omega
              have hl2 : M2.length = i - k := by rw [hM2, List.length_map, List.length_drop, HX.out.1]
              obtain ⟨X2, hX2⟩ : ∃ M, M = M1 ++ [(i : Int)] := ⟨_, rfl⟩
              obtain ⟨X3, hX3⟩ : ∃ M, M = X2 ++ M2 := ⟨_, rfl⟩
              have hl3 : X2.length = k + 1 := by rw [hX2, List.length_append, hl1]; rfl
              have hl4 : X3.length = i + 1 := by rw [hX3, List.length_append, hl3, hl2]; omega
              have hI := (OwnI.at HQ2.out.row).1
              have hs1 : IAt wr (some ⟨g, 0, none⟩) c M1 := by
                have := hI.take k c (by rw [List.length_map, HX.out.1]; omega) (by unfold maxLen; omega)
                rw [hM1]; unfold zsP at this ⊢; rw [List.map_take]; exact this
              have hs2 : IAt wr (if c = k then some ⟨g, 0, none⟩ else some ⟨g, k, none⟩) (c - k) M2 := by
                by_cases hck : c = k
                · have h0 : M2 = [] := List.length_eq_zero_iff.1 (by rw [hl2]; omega)
                  rw [if_pos hck, h0]
                  exact ⟨Nat.zero_le _, by unfold maxLen; omega, fun q x hx => by simp at hx⟩
                · rw [if_neg hck]
                  have := hI.drop (k := k) (by rw [List.length_map, HX.out.1]; exact hk)
                  rw [Nat.zero_add] at this
                  rw [hM2]; unfold zsP at this ⊢; rw [List.map_drop]; exact this
              have HM := Lib.hid (And.intro hs1 (And.intro hs2 (And.intro hl1 (And.intro hl2 (And.intro hX2 (And.intro hX3 (And.intro hl3 (And.intro hl4 (And.intro hM1 hM2)))))))))
              clear hs1 hs2 hl1 hl2 hX2 hX3 hl3 hl4 hM1 hM2 hI
              have hii : i ≤ 500 := by omega
              have S0 : Below wr.heap.size wr wr.drew := below_drew (Below.refl _ _)
              have S38 : Below wr.heap.size wr (wr.alloc c0).drew := below_drew (below_box _ _)
              have S44 : Below wr.heap.size wr (wr.alloc (c1 (i : Int))).drew := below_drew (below_box _ _)
              have SA : Below wr.heap.size wr ((wr.alloc c0).alloc (c1 (i : Int))).drew := below_drew ((below_box _ _).trans ((below_box _ _).mono (by simp)))
              have SB : Below wr.heap.size wr ((wr.alloc (c1 (i : Int))).alloc c0).drew := below_drew ((below_box _ _).trans ((below_box _ _).mono (by simp)))
              have TA := Lib.hid (two_a wr (i : Int)).drew
              have TB := Lib.hid (two_b wr (i : Int)).drew
              have OC := Lib.hid (show OwnI (wr.alloc c0).drew wr.heap.size 3 (some ⟨wr.heap.size, 0, none⟩) 0 [] from own_new wr)
              go_region_held3 (fun w' => Below wr.heap.size wr w')
                (first | (with_reducible exact S0) | (with_reducible exact S38) | (with_reducible exact S44) | (with_reducible exact SA) | (with_reducible exact SB) | (with_reducible exact S3) | (with_reducible exact S3C) | (with_reducible exact S4) | (with_reducible exact S5) | go_keep)
                (first
                  | (refine step_own ?_ (.tmp 45) (.tmp 48) ?_ wr.heap.size A5 c5 X2 ?_ H45.out (if c = k then some ⟨g, 0, none⟩ else some ⟨g, k, none⟩) (c - k) M2 ?_ (HM.out.2.1.below S4 (Nat.le_refl _)) (fun h => absurd h (ite_ne_none _ _ _)) (by rw [HM.out.2.2.2.2.2.2.1, HM.out.2.2.2.1]; omega) S4.size ?_
                     (exact rfl)
                     (exact rfl)
                     (exact rfl)
                     (rw [HM.out.2.2.2.1]; exact rfl)
                     intro A9 c9 w9 h9 b9
                     rw [← HM.out.2.2.2.2.2.1] at h9 ⊢
                     have S5 : Below wr.heap.size wr w9 := S4.trans b9
                     have H49 := Lib.hid (And.intro h9 S5)
                     clear h9 b9)
                  | (refine step_own ?_ (.tmp 42) (.tmp 44) ?_ wr.heap.size A4 c4 M1 ?_ HT1.out.row (some ⟨_, 0, none⟩) 1 [(i : Int)] ?_ HT1.out.one (fun h => by cases h) (by rw [HM.out.2.2.1]; show k + 1 ≤ 1000000; omega) S3T.size ?_
                     (exact rfl)
                     (exact rfl)
                     (exact rfl)
                     (exact rfl)
                     intro A5 c5 w5 h5 b5
                     rw [← HM.out.2.2.2.2.1] at h5 ⊢
                     have S4 : Below wr.heap.size wr w5 := S3T.trans b5
                     have H45 := Lib.hid h5
                     clear h5 b5)
                  | (refine step_two ?_ (.tmp 38) (.tmp 41) ?_ wr.heap.size (some ⟨wr.heap.size, 0, none⟩) 0 [] (wr.heap.size + 1) (i : Int) ?_ TA.out (some ⟨g, 0, none⟩) c M1 ?_ (HM.out.1.below SA (Nat.le_refl _)) (fun h => by cases h) (by rw [HM.out.2.2.1]; show 0 + k ≤ 1000000; omega) SA.size ?_
                     (exact rfl)
                     (exact rfl)
                     (exact rfl)
                     (rw [HM.out.2.2.1]; exact rfl)
                     intro A4 c4 w4 h4 b4
                     rw [List.nil_append] at h4 ⊢
                     have S3 : Below wr.heap.size wr w4 := SA.trans b4
                     have S3T := S3
                     have HT1 := Lib.hid h4
                     clear h4 b4)
                  | (refine step_two ?_ (.tmp 38) (.tmp 41) ?_ wr.heap.size (some ⟨wr.heap.size + 1, 0, none⟩) 0 [] wr.heap.size (i : Int) ?_ TB.out (some ⟨g, 0, none⟩) c M1 ?_ (HM.out.1.below SB (Nat.le_refl _)) (fun h => by cases h) (by rw [HM.out.2.2.1]; show 0 + k ≤ 1000000; omega) SB.size ?_
                     (exact rfl)
                     (exact rfl)
                     (exact rfl)
                     (rw [HM.out.2.2.1]; exact rfl)
                     intro A4 c4 w4 h4 b4
                     rw [List.nil_append] at h4 ⊢
                     have S3 : Below wr.heap.size wr w4 := SB.trans b4
                     have S3T := S3
                     have HT1 := Lib.hid h4
                     clear h4 b4)
                  | (refine step_own ?_ (.tmp 38) (.tmp 41) ?_ wr.heap.size (some ⟨wr.heap.size, 0, none⟩) 0 [] ?_ OC.out (some ⟨g, 0, none⟩) c M1 ?_ (HM.out.1.below S38 (Nat.le_refl _)) (fun h => by cases h) (by rw [HM.out.2.2.1]; show 0 + k ≤ 1000000; omega) S38.size ?_
                     (exact rfl)
                     (exact rfl)
                     (exact rfl)
                     (rw [HM.out.2.2.1]; exact rfl)
                     intro A4 c4 w4 h4 b4
                     rw [List.nil_append] at h4 ⊢
                     have S3 : Below wr.heap.size wr w4 := S38.trans b4
                     have S3C : Below wr.heap.size wr (w4.alloc (c1 (i : Int))) := S3.alloc S3.size _
                     have S3T := S3C
                     have HT1 := Lib.hid (two_c (w := wr) (i : Int) h4)
                     clear h4 b4))
              all_goals
                go_wp2
                go_roundw
                case rel => exact ⟨i + 1, A9, c9, by omega, by go_num, by rw [HM.out.2.2.2.2.2.2.2.1], ⟨by
                    rw [HX.out.2.1, HQK.out]
                    have h := H49.out.1
                    rw [HM.out.2.2.2.2.2.1, HM.out.2.2.2.2.1, HM.out.2.2.2.2.2.2.2.2.1, HM.out.2.2.2.2.2.2.2.2.2] at h
                    have e : zsP (insK o i k) = zsP (o.take k) ++ [(i : Int)] ++ zsP (o.drop k) := by unfold insK zsP; simp
                    rw [e]
                    exact row_low h HQ2.out.below.size, HQ2.out.below.trans (H49.out.2.mono HQ2.out.below.size)⟩⟩
                case measure => simp [intOf]; omega
      · obtain rfl : i = L.length := by omega
        obtain ⟨hO, hol⟩ := qord_ord L L.length
        have hia := (OwnI.at hq.row).1
        have hly := layR_ok wr lA lc L A c (qord L L.length) (HH.out.1.below hq.below (Nat.le_refl _)) hia HH.out.2 hO
        rw [hol] at hly
        have HL := Lib.hid hly
        have HQ := Lib.hid hq
        clear hly hO hol hia hq
        go_wp2_with (go_at_call 37; refine HL.out.mono ?_; rintro e w3 ⟨ga, rfl, hr, hg, hb3⟩; have H3 := Lib.hid (And.intro hr (And.intro hg hb3)); clear hr hg hb3)
        go_ret3
        rw [← HPOST.out]
        exact HFIN.out _ _ ⟨ga, rfl, H3.out.1, Nat.le_trans HQ.out.below.size H3.out.2.1, HQ.out.below.trans (H3.out.2.2.mono HQ.out.below.size)⟩
  all_goals
    rw [hv] at hck
    have HC := Lib.hid hck
    have fin : ∀ (e : Ending) (w' : World), LaidNo w (checkV L) e w' → (checkV L ≠ 0 → LaidNo w (checkV L) e w') ∧ (checkV L = 0 → Laid w L (qord L L.length) e w') := fun e w' h => ⟨fun _ => h, fun h2 => by omega⟩
    rw [hv] at fin
    have HFIN := Lib.hid fin
    rw [hv]
    clear hck hv hl fin
    go_enter Try.func30, Try.ntmps30
    go_wp2_with (go_at_call 20; refine HC.out.mono ?_; rintro e w1 ⟨rfl, hb1⟩; have HB1 := Lib.hid hb1; clear hb1)
    go_ret3
    exact HFIN.out _ _ ⟨rfl, HB1.out⟩
end Of
end Go.Proofs.Ytjgakcpjphdicaa
