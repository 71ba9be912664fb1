/- The walk of NestedApart. -/
import Derived.Test.YtllmddhahpegmaaBG
import Derived.Test.YtllmddhahpegmaaW
import Derived.Deep.CutRange
import Derived.RegionTactic
import Derived.ChangeAlike
import Derived.Laws.MakeOwn
namespace Go.Proofs.Ytllmddhahpegmaa
open Go.RowKit
namespace Ne

theorem int_row : (Try.prog.info? 3).map (fun i => (i.zero, i.size, i.bytes)) = some (some (.int .i64 0), 1, 8) := by kernel_rfl

theorem make_ints (w : World) (z : Nat) (hz : z ≤ 3000) : (Instr.makeSlice 36 (.int .i64 (z : Int)) (.int .i64 (z : Int))).run Try.prog w = .ok (.slice (some ⟨w.heap.size, 0, none⟩) z z) (w.alloc (.cells (Array.replicate z (.int .i64 0)) 3)) := by
  obtain ⟨i0, hi, h0, h1, h2⟩ := info_parts int_row
  have := run_make (P := Try.prog) w 36 3 i0 (.int .i64 0) Try.underlying36 hi h0 .i64 .i64 z z (by omega) (Int.le_refl _) (by rw [h2]; omega) (by omega)
  rw [this]
  have hm : madeCells (Value.int .i64 0).cells (z * i0.size) = Array.replicate z (.int .i64 0) := by
    rw [h1, Nat.mul_one]
    apply Array.ext
    · simp [size_madeCells]
    · intro j h3 h4
      simp [madeCells, Value.cells]
      rw [Nat.mod_one]; rfl
  simp only [Int.toNat_natCast]
  rw [hm]

theorem ints_new (w : World) (z : Nat) : IntsAt (w.alloc (.cells (Array.replicate z (.int .i64 0)) 3)) w.heap.size z (fun _ => 0) :=
  ⟨Array.replicate z (.int .i64 0), heap_alloc_new _ _, by simp, fun p hp => by simp [hp]⟩

theorem two_ints (w : World) (z : Nat) : IntsAt ((w.alloc (.cells (Array.replicate z (.int .i64 0)) 3)).alloc (.cells (Array.replicate z (.int .i64 0)) 3)).drew w.heap.size z (fun _ => 0) ∧
    IntsAt ((w.alloc (.cells (Array.replicate z (.int .i64 0)) 3)).alloc (.cells (Array.replicate z (.int .i64 0)) 3)).drew (w.heap.size + 1) z (fun _ => 0) ∧
    Below w.heap.size w ((w.alloc (.cells (Array.replicate z (.int .i64 0)) 3)).alloc (.cells (Array.replicate z (.int .i64 0)) 3)).drew := by
  have h1 := ints_new w z
  have h2 := ints_new (w.alloc (.cells (Array.replicate z (.int .i64 0)) 3)) z
  rw [World.size_alloc] at h2
  exact ⟨(h1.keep (w' := (w.alloc (.cells (Array.replicate z (.int .i64 0)) 3)).alloc (.cells (Array.replicate z (.int .i64 0)) 3)) (heap_alloc_old _ _ h1.lt)).keep rfl, h2.keep rfl, (((Below.refl _ _).alloc (Nat.le_refl _) _).alloc (by simp) _).drew⟩

theorem tree_keep {w w' : World} {own : Nat → Option Nat} {t : Nat} {M : Tr} (h : Tree w own t M) (hk : ∀ k, own k ≠ none → k < w.heap.size → w'.heap[k]? = w.heap[k]?) : Tree w' own t M := by
  obtain ⟨g, cap, cs, h⟩ := h
  exact ⟨g, cap, cs, h.same fun k h1 h2 => ⟨hk k h1 h2, rfl⟩⟩

theorem owns_no {M : Tr} (h : Good M) {y : Int} {k : Nat} {i : Int} (ho : Owns M y k i) : ∃ n, M[k]? = some (some n) ∧ n.a ≤ y ∧ y < n.a + n.s ∧ (∀ x ∈ n.l, x.a ≤ y → y < x.a + x.s → x.c < 0) ∧ ((∃ x ∈ n.l, x.a ≤ y ∧ y < x.a + x.s) → 0 ≤ i) := by
  obtain ⟨n, hk, a1, a2, hi, hx⟩ := ho
  have key : ∀ x ∈ n.l, x.a ≤ y → y < x.a + x.s → 0 ≤ i := by
    intro x hxm h1 h2
    rw [hi]
    unfold fidx
    rw [if_pos (List.findIdx_lt_length_of_exists ⟨x, hxm, by simp [hasByte, h1, h2]⟩)]
    omega
  refine ⟨n, hk, a1, a2, fun x hxm h1 h2 => ?_, fun ⟨x, hxm, h1, h2⟩ => key x hxm h1 h2⟩
  have h0 := key x hxm h1 h2
  rw [hi] at h0
  obtain ⟨j, z, e, hj, hz, hb⟩ := fidx_at h0
  have hzc := hx z (by rw [hi]; exact h0) (by rw [hi, e, Int.toNat_natCast]; exact hz)
  simp only [hasByte, Bool.and_eq_true, decide_eq_true_eq] at hb
  obtain ⟨u, hu⟩ := List.getElem?_of_mem hxm
  have := seq_one (h.node _ _ hk).seq hz hu hb.1 hb.2 h1 h2
  subst this
  rw [hz] at hu
  injection hu with hu
  rw [← hu]; exact hzc

set_option maxRecDepth 100000 in
set_option maxHeartbeats 4000000 in
theorem apart_walk (w : World) (size : Int) (A : Option Addr) (c : Nat) (l : List Cl) (h : CallsAt w A c l) :
    Calls Try.prog 3 #[.int .i64 size, .slice A l.length c] w fun e w' => e = .returned (.bool true) ∧ Below w.heap.size w w' := by
  have HMade := Lib.hid (made_calls w size A c l h)
  clear h
  generalize l.length = L0 at *
  go_enter Try.func3, Try.ntmps3
  go_wp2_with (go_at_call 9; fail)
  refine HMade.out.mono ?_
  clear HMade
  rintro e w1 (⟨rfl, hb1⟩ | ⟨_, hz1, _, t, own1, M, rfl, H1, hroot⟩)
  · go_wp2_with (go_at_call 10; refine (awake_ok _).mono ?_; rintro e w2 ⟨rfl, hb2⟩)
    go_ret
    exact ⟨rfl, hb1.trans (hb2.mono hb1.size)⟩
  obtain ⟨z, rfl⟩ := Int.eq_ofNat_of_zero_le (show 0 ≤ size by omega)
  by_cases h3 : 3000 < z
  · have hd : decide ((3000 : Int) < (z : Int)) = true := decide_eq_true (by omega)
    go_wp2_with (go_at_call 10; refine (awake_ok _).mono ?_; rintro e w2 ⟨rfl, hb2⟩)
    go_ret
    exact ⟨rfl, H1.below.trans (hb2.mono H1.below.size)⟩
  have hd : decide ((3000 : Int) < (z : Int)) = false := decide_eq_false (by omega)
  go_wp2_with (go_at_call 11; fail)
  refine (kp_save H1).mono ?_
  rintro e w2 ⟨⟨A5, c5, rfl, hS⟩, H2, _⟩
  have hsl : (save M).length = M.length := by simp [save]
  have hw2 := H2.below.size
  have r6 : (w2.alloc (.cells #[.slice A5 (save M).length c5] 28)).cell? ⟨w2.heap.size, 0, none⟩ = some (.slice A5 (save M).length c5) := by
    rw [World.cell?_alloc_at _ _ _ _ rfl]; rfl
  have H3 : Held w (w2.alloc (.cells #[.slice A5 (save M).length c5] 28)) own1 t M := H2.of_below ((Below.refl _ _).alloc (Nat.le_refl _) _)
  have hS3 : StK (fun k => k < w2.heap.size) (w2.alloc (.cells #[.slice A5 (save M).length c5] 28)) A5 c5 (save M) := hS.keep fun k hk hlt => ⟨heap_alloc_old _ _ hlt, hlt⟩
  have hsz : (w2.alloc (.cells #[.slice A5 (save M).length c5] 28)).heap.size = w2.heap.size + 1 := by simp
  rw [hsl] at r6 H3 hS3 hsz
  have hCk := Lib.hid (check_ok _ _ A5 c5 M hS3 H3.good)
  obtain ⟨r, hr, hrz⟩ := hroot
  have HS := Lib.hid (And.intro H3 (And.intro hS3 (And.intro hr hrz)))
  have HSL := Lib.hid hsl
  clear H1 H2 hS hr hrz
  go_wp2_with (go_at_call 12; fail)
  generalize (w2.alloc (.cells #[.slice A5 M.length c5] 28)) = W6 at *
  refine hCk.out.mono ?_
  rintro e w7 ⟨rfl, hb7⟩
  obtain ⟨g, f, B, cB, rfl, hgl, _, _, p2, _⟩ := st_at hS3 HS.out.2.2.1
  replace p2 : w7.cell? ⟨g, f + 2, none⟩ = some (.int .i64 z) := by
    have := (hb7.cell (p := ⟨g, _, none⟩) hgl).trans p2
    rw [Nat.zero_mul, Nat.add_zero] at this
    rw [this, ← HS.out.2.2.2]; rfl
  have r6' := (hb7.cell (p := ⟨w2.heap.size, 0, none⟩) (show w2.heap.size < W6.heap.size by omega)).trans r6
  have hpos := H3.good.pos
  obtain ⟨hc51, hc52⟩ := st_len hS3
  have hb7s := hb7.size
  have HB7 := Lib.hid hb7
  have hmk := fun w => make_ints w z (by omega)
  have HC6 := Lib.hid r6
  clear hb7 H3 hS3 hCk r6 hsl
  go_upto_region 8 with (fail)
  go_cut [9, 10] from 44 to 104 (fun u v wx => ∃ gc gd, u = .slice (some ⟨gc, 0, none⟩) z z ∧ v = .slice (some ⟨gd, 0, none⟩) z z ∧ gc ≠ gd ∧ w7.heap.size ≤ gc ∧ w7.heap.size ≤ gd ∧ IntsAt wx gc z (fun _ => 0) ∧ IntsAt wx gd z (fun _ => 0) ∧ Below w7.heap.size w7 wx)
  case first =>
    go_region
    all_goals (go_wp2_with fail)
    all_goals go_meet
    · exact ⟨_, _, rfl, rfl, by omega, Nat.le_refl _, by omega, two_ints w7 z⟩
    · exact ⟨_, _, rfl, rfl, by omega, by omega, Nat.le_refl _, (two_ints w7 z).2.1, (two_ints w7 z).1, (two_ints w7 z).2.2⟩
  case rest =>
    obtain ⟨gc, gd, rfl, rfl, hne, hgc, hgd, hC0, hD0, hbc⟩ := hcut
    have HC := Lib.hid (And.intro hC0 (And.intro hD0 hbc))
    have hgcl := hC0.lt
    have hgdl := hD0.lt
    clear hC0 hD0 hbc hmk p2 r6'
    go_wp2_with fail
    go_loopw [11] (fun pp wr => ∃ (q : Nat) (f' : Nat → Int), q ≤ z ∧ pp = .int .i64 q ∧ PK gc gd wc wr ∧ IntsAt wr gc z (fun _ => 0) ∧ IntsAt wr gd z f' ∧ (∀ p, p < q → f' p = -1)) (fun pp _ => z - (intOf pp).toNat)
    case atStart => exact ⟨0, _, Nat.zero_le _, rfl, PK.refl _ _ _, HC.out.1, HC.out.2.1, fun p hp => by omega⟩
    case round =>
      obtain ⟨q, f', hq, rfl, hPq, hcq, hdq, hf⟩ := hrel
      by_cases hql : q < z
      · have hcell := hdq.cell hql
        have hfz := hdq.frozen q
        have b1 : (0 : Int) ≤ (q : Int) := by omega
        have b2 : (q : Int) < (z : Int) := by omega
        have HE := Lib.hid (And.intro hPq (And.intro hcq (And.intro hdq hf)))
        clear hPq hcq hdq hf
        go_wp2
        go_roundw
        case rel =>
          obtain ⟨hPq, hcq, hdq, hf⟩ := HE.out
          refine ⟨q + 1, fun p => if p = q then -1 else f' p, by omega, by go_num, hPq.trans (PK.setD _ _ _), hcq.keep (setCell_far _ _ _ _ hne), hdq.set hql (by simp) (fun p hp => by simp [hp]), fun p hp => ?_⟩
          by_cases e : p = q
          · simp [e]
          · simp [e]; exact hf p (by omega)
        case measure => simp [intOf]; omega
      · obtain rfl : q = z := by omega
        have hwcs := hPq.size
        have hP7 : PK gc gd W6 wr := (PK.below HB7.out).trans ((PK.below HC.out.2.2).trans hPq)
        have hK : ∀ k, k < w2.heap.size → k ≠ gc ∧ k ≠ gd := fun k hk => by omega
        have hSr : StK (fun k => k < w2.heap.size) wr (some ⟨g, f, none⟩) c5 (save M) := hP7.st hK HS.out.2.1
        have hpt := paint_ok (fun k => k < w2.heap.size) wr (some ⟨g, f, none⟩) c5 M gc gd q r hSr HS.out.1.good HS.out.2.2.1 HS.out.2.2.2 (by omega) hne hK hcq (hdq.congr fun p hp => (hf p hp).symm)
        have r6r := hP7.cell (show w2.heap.size < W6.heap.size by omega) (by omega) (by omega) HC6.out
        have HP := Lib.hid (And.intro hpt hP7)
        clear hPq hcq hdq hf hP7 hSr hpt
        go_wp2_with (go_at_call 13; fail)
        refine HP.out.1.mono ?_
        rintro e w8 ⟨rfl, hP8, ct, dr, hct, hdr, hpa, hcn⟩
        have hgc8 := hct.lt
        have hgd8 := hdr.lt
        have H8 := Lib.hid (And.intro (HP.out.2.trans hP8) (And.intro hct (And.intro hdr (And.intro hpa hcn))))
        have hw8s := (HP.out.2.trans hP8).size
        clear hP8 hct hdr hpa hcn r6r
        go_wp2_with fail
        go_loopw [12, 13, 14, 15] (fun pp _ _ _ wr' => ∃ p : Nat, p ≤ q ∧ pp = .int .i64 p ∧ Below w8.heap.size w8 wr') (fun pp _ _ _ _ => q - (intOf pp).toNat)
        case atStart => exact ⟨0, Nat.zero_le _, rfl, Below.refl _ _⟩
        case round =>
          obtain ⟨p, hp, rfl, hb⟩ := hrel
          have HB := Lib.hid hb
          by_cases hpl : p < q
          · have hT : Tree wr own1 t M := tree_keep HS.out.1.tree fun k hk hkl => by
              have h1 := H8.out.1
              exact (hb.block k (by omega)).trans (h1.block k hkl (by omega) (by omega))
            have hOw := Lib.hid (owner_tree wr own1 t M (p : Int) r hT HS.out.1.good HS.out.2.2.1)
            have hrs := HS.out.2.2.2
            clear hb hT
            go_wp2_with (go_at_call 14; fail)
            refine hOw.out.mono ?_
            rintro e w9 ⟨(⟨h1, _⟩ | ⟨_, _, k, i, rfl, ho⟩), hb9⟩
            · exfalso; omega
            · obtain ⟨n, hn, a1, a2, hno, hsome⟩ := owns_no HS.out.1.good ho
              have hb89 := HB.out.trans (hb9.mono HB.out.size)
              have hdc := (H8.out.2.2.1.keep (hb89.block gd hgd8)).cell hpl
              rw [drawn_owner HS.out.1.good H8.out.2.2.2.1 hpl hn a1 a2 hno] at hdc
              have hcc := (H8.out.2.1.keep (hb89.block gc hgc8)).cell hpl
              have b1 : (0 : Int) ≤ (p : Int) := by omega
              have b2 : (p : Int) < (q : Int) := by omega
              rcases H8.out.2.2.2.2 p hpl with ⟨hz, _⟩ | ⟨hz, j, k', _, hby⟩
              · rw [hz] at hcc
                have H9 := Lib.hid hb89
                clear hb89 hb9 ho hn a1 a2 hno hsome hz hrs hOw
                go_wp2
                go_roundw
                case rel => exact ⟨p + 1, by omega, by go_num, H9.out⟩
                case measure => simp [intOf]; omega
              · have hi0 := hsome (byte_owner HS.out.1.good hn a1 a2 hno hby)
                rw [hz] at hcc
                have H9 := Lib.hid hb89
                clear hb89 hb9 ho hn a1 a2 hno hsome hz hrs hOw hby
                go_wp2
                go_roundw
                case rel => exact ⟨p + 1, by omega, by go_num, H9.out⟩
                case measure => simp [intOf]; omega
          · obtain rfl : p = q := by omega
            clear hb
            go_wp2_with (go_at_call 10; refine (awake_ok _).mono ?_; rintro e w10 ⟨rfl, hb10⟩)
            go_ret
            have hw := HS.out.1.below
            have h1 := H8.out.1
            have hb8 : Below w.heap.size W6 w8 := ⟨h1.os, h1.tape, h1.output, h1.size, fun k hk => h1.block k (by have := hw.size; omega) (by have := hw.size; omega) (by have := hw.size; omega)⟩
            exact ⟨rfl, hw.trans (hb8.trans ((HB.out.trans (hb10.mono HB.out.size)).mono (by have := hw.size; omega)))⟩
end Ne
end Go.Proofs.Ytllmddhahpegmaa
