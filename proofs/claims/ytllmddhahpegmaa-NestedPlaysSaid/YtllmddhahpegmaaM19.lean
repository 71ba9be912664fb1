/- The walk of NestedApart. The reference: New, Owner; same lists. What End leaves: the law of NestedEnds. -/
import Derived.Test.YtllmddhahpegmaaM18
import Derived.Test.YtllmddhahpegmaaM9
import Derived.Deep.CutRange
import Derived.RegionTactic
import Derived.ChangeAlike
import Derived.Laws.MakeOwn
import Derived.Test.YtllmddhahpegmaaM14
import Derived.Test.YtllmddhahpegmaaM16
import Derived.Test.YtllmddhahpegmaaM11
namespace Go.Proofs.Ytllmddhahpegmaa
open Go.RowKit
namespace Ne

theorem int_row : (Try.prog.info? 3).map (fun i => (i.zero, i.size, i.bytes)) = some (some (.int .i64 0), 1, 8) := by kernel_rfl

theorem make_ints (w : World) (z : Nat) (hz : z ≤ 3000) : (Instr.makeSlice 36 (.int .i64 (z : Int)) (.int .i64 (z : Int))).run Try.prog w = .ok (.slice (some ⟨w.heap.size, 0, none⟩) z z) (w.alloc (.cells (Array.replicate z (.int .i64 0)) 3)) := by
  obtain ⟨i0, hi, h0, h1, h2⟩ := info_parts int_row
  have := run_make (P := Try.prog) w 36 3 i0 (.int .i64 0) Try.underlying36 hi h0 .i64 .i64 z z (by omega) (Int.le_refl _) (by rw [h2]; omega) (by omega)
  rw [this]
  have hm : madeCells (Value.int .i64 0).cells (z * i0.size) = Array.replicate z (.int .i64 0) := by
    rw [h1, Nat.mul_one]
    apply Array.ext
    · simp [size_madeCells]
    · intro j h3 h4
      simp [madeCells, Value.cells]
      rw [Nat.mod_one]; rfl
  simp only [Int.toNat_natCast]
  rw [hm]

theorem ints_new (w : World) (z : Nat) : IntsAt (w.alloc (.cells (Array.replicate z (.int .i64 0)) 3)) w.heap.size z (fun _ => 0) :=
  ⟨Array.replicate z (.int .i64 0), heap_alloc_new _ _, by simp, fun p hp => by simp [hp]⟩

theorem two_ints (w : World) (z : Nat) : IntsAt ((w.alloc (.cells (Array.replicate z (.int .i64 0)) 3)).alloc (.cells (Array.replicate z (.int .i64 0)) 3)).drew w.heap.size z (fun _ => 0) ∧
    IntsAt ((w.alloc (.cells (Array.replicate z (.int .i64 0)) 3)).alloc (.cells (Array.replicate z (.int .i64 0)) 3)).drew (w.heap.size + 1) z (fun _ => 0) ∧
    Below w.heap.size w ((w.alloc (.cells (Array.replicate z (.int .i64 0)) 3)).alloc (.cells (Array.replicate z (.int .i64 0)) 3)).drew := by
  have h1 := ints_new w z
  have h2 := ints_new (w.alloc (.cells (Array.replicate z (.int .i64 0)) 3)) z
  rw [World.size_alloc] at h2
  exact ⟨(h1.keep (w' := (w.alloc (.cells (Array.replicate z (.int .i64 0)) 3)).alloc (.cells (Array.replicate z (.int .i64 0)) 3)) (heap_alloc_old _ _ h1.lt)).keep rfl, h2.keep rfl, (((Below.refl _ _).alloc (Nat.le_refl _) _).alloc (by simp) _).drew⟩

theorem tree_keep {w w' : World} {own : Nat → Option Nat} {t : Nat} {M : Tr} (h : Tree w own t M) (hk : ∀ k, own k ≠ none → k < w.heap.size → w'.heap[k]? = w.heap[k]?) : Tree w' own t M := by
  obtain ⟨g, cap, cs, h⟩ := h
  exact ⟨g, cap, cs, h.same fun k h1 h2 => ⟨hk k h1 h2, rfl⟩⟩

theorem owns_no {M : Tr} (h : Good M) {y : Int} {k : Nat} {i : Int} (ho : Owns M y k i) : ∃ n, M[k]? = some (some n) ∧ n.a ≤ y ∧ y < n.a + n.s ∧ (∀ x ∈ n.l, x.a ≤ y → y < x.a + x.s → x.c < 0) ∧ ((∃ x ∈ n.l, x.a ≤ y ∧ y < x.a + x.s) → 0 ≤ i) := by
  obtain ⟨n, hk, a1, a2, hi, hx⟩ := ho
  have key : ∀ x ∈ n.l, x.a ≤ y → y < x.a + x.s → 0 ≤ i := by
    intro x hxm h1 h2
    rw [hi]
    unfold fidx
    rw [if_pos (List.findIdx_lt_length_of_exists ⟨x, hxm, by simp [hasByte, h1, h2]⟩)]
    omega
  refine ⟨n, hk, a1, a2, fun x hxm h1 h2 => ?_, fun ⟨x, hxm, h1, h2⟩ => key x hxm h1 h2⟩
  have h0 := key x hxm h1 h2
  rw [hi] at h0
  obtain ⟨j, z, e, hj, hz, hb⟩ := fidx_at h0
  have hzc := hx z (by rw [hi]; exact h0) (by rw [hi, e, Int.toNat_natCast]; exact hz)
  simp only [hasByte, Bool.and_eq_true, decide_eq_true_eq] at hb
  obtain ⟨u, hu⟩ := List.getElem?_of_mem hxm
  have := seq_one (h.node _ _ hk).seq hz hu hb.1 hb.2 h1 h2
  subst this
  rw [hz] at hu
  injection hu with hu
  rw [← hu]; exact hzc

set_option maxRecDepth 100000 in
set_option maxHeartbeats 4000000 in
theorem apart_walk (w : World) (size : Int) (A : Option Addr) (c : Nat) (l : List Cl) (h : CallsAt w A c l) :
    Calls Try.prog 3 #[.int .i64 size, .slice A l.length c] w fun e w' => e = .returned (.bool true) ∧ Below w.heap.size w w' := by
  have HMade := Lib.hid (made_calls w size A c l h)
  clear h
  generalize l.length = L0 at *
  go_enter Try.func3, Try.ntmps3
  go_wp2_with (go_at_call 9; fail)
  refine HMade.out.mono ?_
  clear HMade
  rintro e w1 (⟨rfl, hb1⟩ | ⟨_, hz1, _, t, own1, M, rfl, H1, hroot⟩)
  · go_wp2_with (go_at_call 10; refine (awake_ok _).mono ?_; rintro e w2 ⟨rfl, hb2⟩)
    go_ret
    exact ⟨rfl, hb1.trans (hb2.mono hb1.size)⟩
  obtain ⟨z, rfl⟩ := Int.eq_ofNat_of_zero_le (show 0 ≤ size by omega)
  by_cases h3 : 3000 < z
  · have hd : decide ((3000 : Int) < (z : Int)) = true := decide_eq_true (by omega)
    go_wp2_with (go_at_call 10; refine (awake_ok _).mono ?_; rintro e w2 ⟨rfl, hb2⟩)
    go_ret
    exact ⟨rfl, H1.below.trans (hb2.mono H1.below.size)⟩
  have hd : decide ((3000 : Int) < (z : Int)) = false := decide_eq_false (by omega)
  go_wp2_with (go_at_call 11; fail)
  refine (kp_save H1).mono ?_
  rintro e w2 ⟨⟨A5, c5, rfl, hS⟩, H2, _⟩
  have hsl : (save M).length = M.length := by simp [save]
  have hw2 := H2.below.size
  have r6 : (w2.alloc (.cells #[.slice A5 (save M).length c5] 28)).cell? ⟨w2.heap.size, 0, none⟩ = some (.slice A5 (save M).length c5) := by
    rw [World.cell?_alloc_at _ _ _ _ rfl]; rfl
  have H3 : Held w (w2.alloc (.cells #[.slice A5 (save M).length c5] 28)) own1 t M := H2.of_below ((Below.refl _ _).alloc (Nat.le_refl _) _)
  have hS3 : StK (fun k => k < w2.heap.size) (w2.alloc (.cells #[.slice A5 (save M).length c5] 28)) A5 c5 (save M) := hS.keep fun k hk hlt => ⟨heap_alloc_old _ _ hlt, hlt⟩
  have hsz : (w2.alloc (.cells #[.slice A5 (save M).length c5] 28)).heap.size = w2.heap.size + 1 := by simp
  rw [hsl] at r6 H3 hS3 hsz
  have hCk := Lib.hid (check_ok _ _ A5 c5 M hS3 H3.good)
  obtain ⟨r, hr, hrz⟩ := hroot
  have HS := Lib.hid (And.intro H3 (And.intro hS3 (And.intro hr hrz)))
  have HSL := Lib.hid hsl
  clear H1 H2 hS hr hrz
  go_wp2_with (go_at_call 12; fail)
  generalize (w2.alloc (.cells #[.slice A5 M.length c5] 28)) = W6 at *
  refine hCk.out.mono ?_
  rintro e w7 ⟨rfl, hb7⟩
  obtain ⟨g, f, B, cB, rfl, hgl, _, _, p2, _⟩ := st_at hS3 HS.out.2.2.1
  replace p2 : w7.cell? ⟨g, f + 2, none⟩ = some (.int .i64 z) := by
    have := (hb7.cell (p := ⟨g, _, none⟩) hgl).trans p2
    rw [Nat.zero_mul, Nat.add_zero] at this
    rw [this, ← HS.out.2.2.2]; rfl
  have r6' := (hb7.cell (p := ⟨w2.heap.size, 0, none⟩) (show w2.heap.size < W6.heap.size by omega)).trans r6
  have hpos := H3.good.pos
  obtain ⟨hc51, hc52⟩ := st_len hS3
  have hb7s := hb7.size
  have HB7 := Lib.hid hb7
  have hmk := fun w => make_ints w z (by omega)
  have HC6 := Lib.hid r6
  clear hb7 H3 hS3 hCk r6 hsl
  go_upto_region 8 with (fail)
  go_cut [9, 10] from 44 to 104 (fun u v wx => ∃ gc gd, u = .slice (some ⟨gc, 0, none⟩) z z ∧ v = .slice (some ⟨gd, 0, none⟩) z z ∧ gc ≠ gd ∧ w7.heap.size ≤ gc ∧ w7.heap.size ≤ gd ∧ IntsAt wx gc z (fun _ => 0) ∧ IntsAt wx gd z (fun _ => 0) ∧ Below w7.heap.size w7 wx)
  case first =>
    go_region
    all_goals (go_wp2_with fail)
    all_goals go_meet
    · exact ⟨_, _, rfl, rfl, by omega, Nat.le_refl _, by omega, two_ints w7 z⟩
    · exact ⟨_, _, rfl, rfl, by omega, by omega, Nat.le_refl _, (two_ints w7 z).2.1, (two_ints w7 z).1, (two_ints w7 z).2.2⟩
  case rest =>
    obtain ⟨gc, gd, rfl, rfl, hne, hgc, hgd, hC0, hD0, hbc⟩ := hcut
    have HC := Lib.hid (And.intro hC0 (And.intro hD0 hbc))
    have hgcl := hC0.lt
    have hgdl := hD0.lt
    clear hC0 hD0 hbc hmk p2 r6'
    go_wp2_with fail
    go_loopw [11] (fun pp wr => ∃ (q : Nat) (f' : Nat → Int), q ≤ z ∧ pp = .int .i64 q ∧ PK gc gd wc wr ∧ IntsAt wr gc z (fun _ => 0) ∧ IntsAt wr gd z f' ∧ (∀ p, p < q → f' p = -1)) (fun pp _ => z - (intOf pp).toNat)
    case atStart => exact ⟨0, _, Nat.zero_le _, rfl, PK.refl _ _ _, HC.out.1, HC.out.2.1, fun p hp => by omega⟩
    case round =>
      obtain ⟨q, f', hq, rfl, hPq, hcq, hdq, hf⟩ := hrel
      by_cases hql : q < z
      · have hcell := hdq.cell hql
        have hfz := hdq.frozen q
        have b1 : (0 : Int) ≤ (q : Int) := by omega
        have b2 : (q : Int) < (z : Int) := by omega
        have HE := Lib.hid (And.intro hPq (And.intro hcq (And.intro hdq hf)))
        clear hPq hcq hdq hf
        go_wp2
        go_roundw
        case rel =>
          obtain ⟨hPq, hcq, hdq, hf⟩ := HE.out
          refine ⟨q + 1, fun p => if p = q then -1 else f' p, by omega, by go_num, hPq.trans (PK.setD _ _ _), hcq.keep (setCell_far _ _ _ _ hne), hdq.set hql (by simp) (fun p hp => by simp [hp]), fun p hp => ?_⟩
          by_cases e : p = q
          · simp [e]
          · simp [e]; exact hf p (by omega)
        case measure => simp [intOf]; omega
      · obtain rfl : q = z := by omega
        have hwcs := hPq.size
        have hP7 : PK gc gd W6 wr := (PK.below HB7.out).trans ((PK.below HC.out.2.2).trans hPq)
        have hK : ∀ k, k < w2.heap.size → k ≠ gc ∧ k ≠ gd := fun k hk => by omega
        have hSr : StK (fun k => k < w2.heap.size) wr (some ⟨g, f, none⟩) c5 (save M) := hP7.st hK HS.out.2.1
        have hpt := paint_ok (fun k => k < w2.heap.size) wr (some ⟨g, f, none⟩) c5 M gc gd q r hSr HS.out.1.good HS.out.2.2.1 HS.out.2.2.2 (by omega) hne hK hcq (hdq.congr fun p hp => (hf p hp).symm)
        have r6r := hP7.cell (show w2.heap.size < W6.heap.size by omega) (by omega) (by omega) HC6.out
        have HP := Lib.hid (And.intro hpt hP7)
        clear hPq hcq hdq hf hP7 hSr hpt
        go_wp2_with (go_at_call 13; fail)
        refine HP.out.1.mono ?_
        rintro e w8 ⟨rfl, hP8, ct, dr, hct, hdr, hpa, hcn⟩
        have hgc8 := hct.lt
        have hgd8 := hdr.lt
        have H8 := Lib.hid (And.intro (HP.out.2.trans hP8) (And.intro hct (And.intro hdr (And.intro hpa hcn))))
        have hw8s := (HP.out.2.trans hP8).size
        clear hP8 hct hdr hpa hcn r6r
        go_wp2_with fail
        go_loopw [12, 13, 14, 15] (fun pp _ _ _ wr' => ∃ p : Nat, p ≤ q ∧ pp = .int .i64 p ∧ Below w8.heap.size w8 wr') (fun pp _ _ _ _ => q - (intOf pp).toNat)
        case atStart => exact ⟨0, Nat.zero_le _, rfl, Below.refl _ _⟩
        case round =>
          obtain ⟨p, hp, rfl, hb⟩ := hrel
          have HB := Lib.hid hb
          by_cases hpl : p < q
          · have hT : Tree wr own1 t M := tree_keep HS.out.1.tree fun k hk hkl => by
              have h1 := H8.out.1
              exact (hb.block k (by omega)).trans (h1.block k hkl (by omega) (by omega))
            have hOw := Lib.hid (owner_tree wr own1 t M (p : Int) r hT HS.out.1.good HS.out.2.2.1)
            have hrs := HS.out.2.2.2
            clear hb hT
            go_wp2_with (go_at_call 14; fail)
            refine hOw.out.mono ?_
            rintro e w9 ⟨(⟨h1, _⟩ | ⟨_, _, k, i, rfl, ho⟩), hb9⟩
            · exfalso; omega
            · obtain ⟨n, hn, a1, a2, hno, hsome⟩ := owns_no HS.out.1.good ho
              have hb89 := HB.out.trans (hb9.mono HB.out.size)
              have hdc := (H8.out.2.2.1.keep (hb89.block gd hgd8)).cell hpl
              rw [drawn_owner HS.out.1.good H8.out.2.2.2.1 hpl hn a1 a2 hno] at hdc
              have hcc := (H8.out.2.1.keep (hb89.block gc hgc8)).cell hpl
              have b1 : (0 : Int) ≤ (p : Int) := by omega
              have b2 : (p : Int) < (q : Int) := by omega
              rcases H8.out.2.2.2.2 p hpl with ⟨hz, _⟩ | ⟨hz, j, k', _, hby⟩
              · rw [hz] at hcc
                have H9 := Lib.hid hb89
                clear hb89 hb9 ho hn a1 a2 hno hsome hz hrs hOw
                go_wp2
                go_roundw
                case rel => exact ⟨p + 1, by omega, by go_num, H9.out⟩
                case measure => simp [intOf]; omega
              · have hi0 := hsome (byte_owner HS.out.1.good hn a1 a2 hno hby)
                rw [hz] at hcc
                have H9 := Lib.hid hb89
                clear hb89 hb9 ho hn a1 a2 hno hsome hz hrs hOw hby
                go_wp2
                go_roundw
                case rel => exact ⟨p + 1, by omega, by go_num, H9.out⟩
                case measure => simp [intOf]; omega
          · obtain rfl : p = q := by omega
            clear hb
            go_wp2_with (go_at_call 10; refine (awake_ok _).mono ?_; rintro e w10 ⟨rfl, hb10⟩)
            go_ret
            have hw := HS.out.1.below
            have h1 := H8.out.1
            have hb8 : Below w.heap.size W6 w8 := ⟨h1.os, h1.tape, h1.output, h1.size, fun k hk => h1.block k (by have := hw.size; omega) (by have := hw.size; omega) (by have := hw.size; omega)⟩
            exact ⟨rfl, hw.trans (hb8.trans ((HB.out.trans (hb10.mono HB.out.size)).mono (by have := hw.size; omega)))⟩
end Ne
end Go.Proofs.Ytllmddhahpegmaa
namespace Go.Proofs.Ytllmddhahpegmaa
open Go.RowKit
namespace Ne

theorem Owns.unique {M : Tr} (h : Good M) {y : Int} {k k' : Nat} {i i' : Int} (h1 : Owns M y k i) (h2 : Owns M y k' i') : k = k' ∧ i = i' := by
  have key : ∀ {k k' : Nat} {i i' : Int}, Owns M y k i → Owns M y k' i' → Anc M k' k → k = k' := by
    intro k k' i i' h1 h2 hA
    by_cases e : k' = k
    · exact e.symm
    · obtain ⟨n, hn, _, _, hno, _⟩ := owns_no h h1
      obtain ⟨n', hn', a1, a2, _⟩ := owns_no h h2
      obtain ⟨x, hx, h0, b1, b2⟩ := inner_item h hn hA e ⟨n', hn', a1, a2⟩
      have := hno x hx b1 b2
      omega
  have hk : k = k' := by
    obtain ⟨n, hn, a1, a2, _⟩ := owns_no h h1
    obtain ⟨n', hn', b1, b2, _⟩ := owns_no h h2
    rcases lam h (p := y) ⟨n, hn, a1, a2⟩ ⟨n', hn', b1, b2⟩ with hA | hA
    · exact (key h2 h1 hA).symm
    · exact key h1 h2 hA
  subst hk
  refine ⟨rfl, ?_⟩
  obtain ⟨n, hn, _, _, hi, _⟩ := h1
  obtain ⟨n', hn', _, _, hi', _⟩ := h2
  rw [hn] at hn'
  injection hn' with hn'; injection hn' with hn'
  subst hn'
  rw [hi, hi']

theorem sorted_unique : ∀ (l m : List Nat), l.Pairwise (fun a b => a < b) → m.Pairwise (fun a b => a < b) → (∀ i, i ∈ l ↔ i ∈ m) → l = m := by
  intro l
  induction l with
  | nil =>
    intro m _ _ h
    cases m with
    | nil => rfl
    | cons b m => exact absurd ((h b).2 List.mem_cons_self) (by simp)
  | cons a l ih =>
    intro m hl hm h
    cases m with
    | nil => exact absurd ((h a).1 List.mem_cons_self) (by simp)
    | cons b m =>
      obtain ⟨l1, l2⟩ := List.pairwise_cons.1 hl
      obtain ⟨m1, m2⟩ := List.pairwise_cons.1 hm
      have hab : a = b := by
        rcases List.mem_cons.1 ((h a).1 List.mem_cons_self) with e | e
        · exact e
        · rcases List.mem_cons.1 ((h b).2 List.mem_cons_self) with e' | e'
          · exact e'.symm
          · have := m1 a e; have := l1 b e'; omega
      subst hab
      congr 1
      refine ih m l2 m2 fun i => ?_
      constructor
      · intro hi
        rcases List.mem_cons.1 ((h i).1 (List.mem_cons_of_mem _ hi)) with e | e
        · have := l1 i hi; omega
        · exact e
      · intro hi
        rcases List.mem_cons.1 ((h i).2 (List.mem_cons_of_mem _ hi)) with e | e
        · have := m1 i hi; omega
        · exact e

theorem Under.unique {M : Tr} {k : Int} {m : Nat} {l l' : List Nat} (h : Under M k m l) (h' : Under M k m l') : l = l' :=
  sorted_unique l l' h.1 h'.1 fun i => (h.2 i).trans (h'.2 i).symm

theorem fidx_is {p : Item → Bool} {l : List Item} {j : Nat} {x : Item} (hx : l[j]? = some x) (hp : p x = true) (h : ∀ (i : Nat) (y : Item), i < j → l[i]? = some y → p y = false) : fidx p l = (j : Int) := by
  obtain ⟨hl, rfl⟩ := List.getElem?_eq_some_iff.1 hx
  have e : l.findIdx p = j := (List.findIdx_eq hl).2 ⟨hp, fun i hi => h i _ hi (List.getElem?_eq_getElem (by omega))⟩
  unfold fidx
  rw [e, if_pos hl]
theorem fidx_no {p : Item → Bool} {l : List Item} (h : ∀ (i : Nat) (y : Item), i < l.length → l[i]? = some y → p y = false) : fidx p l = -1 := by
  have e : l.findIdx p = l.length := List.findIdx_eq_length.2 fun x hx => by
    obtain ⟨i, hi, rfl⟩ := List.getElem_of_mem hx
    exact h i _ hi (List.getElem?_eq_getElem hi)
  unfold fidx
  rw [e, if_neg (by omega)]

set_option maxHeartbeats 1000000 in
theorem sameR_yes (w : World) (B B' : Nat) (A A' : Option Addr) (c c' : Nat) (l : List Nat) (h : w.ownsRow B 3 1 (.slice A l.length c) l.length (nints l)) (h' : w.ownsRow B' 3 1 (.slice A' l.length c') l.length (nints l)) :
    Calls Try.prog 65 #[.slice A l.length c, .slice A' l.length c'] w fun e w' => e = .returned (.bool true) ∧ Below w.heap.size w w' := by
  obtain ⟨r1, r2⟩ := row_le h
  obtain ⟨r3, r4⟩ := row_le h'
  unfold maxLen at r2 r4
  have H := Lib.hid (fun (j a : Nat) (hj : l[j]? = some a) => And.intro (nints_cell h rfl j a hj) (nints_cell h' rfl j a hj))
  clear h h'
  go_enter Try.func65, Try.ntmps65
  go_wp2_with fail
  go_loopw [5] (fun i wr => ∃ j : Nat, j ≤ l.length ∧ i = .int .i64 j ∧ Below w.heap.size w wr) (fun i _ => l.length - (intOf i).toNat)
  case atStart => exact ⟨0, Nat.zero_le _, rfl, Below.refl _ _⟩
  case round =>
    obtain ⟨j, hj, rfl, hb⟩ := hrel
    by_cases hlt : j < l.length
    · obtain ⟨a, ha⟩ : ∃ a, l[j]? = some a := ⟨_, List.getElem?_eq_getElem hlt⟩
      obtain ⟨⟨g, rfl, _, hg1, k1⟩, ⟨g', rfl, _, hg2, k2⟩⟩ := H.out j a ha
      replace k1 := (hb.cell (p := ⟨g, j, none⟩) hg1).trans k1
      replace k2 := (hb.cell (p := ⟨g', j, none⟩) hg2).trans k2
      have HE := Lib.hid hb
      clear hb ha
      have i1 : (0 : Int) ≤ (j : Int) := by omega
      have i2 : (j : Int) < (l.length : Int) := by omega
      have e1 : ((a : Int) != (a : Int)) = false := by simp
      go_wp2_with fail
      go_quiet (fail)
      go_wp2
      go_roundw
      case rel => exact ⟨j + 1, by omega, by go_num, HE.out.trans (below_drewN (Below.refl _ _) _)⟩
      case measure => simp [intOf]; omega
    · obtain rfl : j = l.length := by omega
      have HE := Lib.hid hb
      clear hb
      go_wp2
      go_ret
      exact ⟨rfl, HE.out⟩

set_option maxHeartbeats 1000000 in
theorem newR_bad (n : Int) (w : World) (h1 : n < 1 ∨ 65536 < n) :
    Calls Try.prog 26 #[.int .i64 n] w fun e w' => e = .returned (.tuple #[.agg #[.slice none 0 0], .int .i64 7]) ∧ Below w.heap.size w w' := by
  rcases h1 with h1 | h1
  · go_enter Try.func26, Try.ntmps26
    go_wp2
    exact bodyPost_ret (v := .tuple #[.agg #[.slice none 0 0], .int .i64 7]) (by simp [results, Try.results26, go_sem]) rfl ⟨rfl, below_box _ _⟩
  · have h2 : 1 ≤ n := by omega
    go_enter Try.func26, Try.ntmps26
    go_wp2
    exact bodyPost_ret (v := .tuple #[.agg #[.slice none 0 0], .int .i64 7]) (by simp [results, Try.results26, go_sem]) rfl ⟨rfl, below_box _ _⟩

set_option maxHeartbeats 1000000 in
theorem newR_ok (n : Int) (w : World) (h1 : 1 ≤ n) (h2 : n ≤ 65536) :
    Calls Try.prog 26 #[.int .i64 n] w fun e w' => (∃ g cap cur zs, e = .returned (.tuple #[.agg #[.slice (some ⟨g, 0, none⟩) 1 cap], .int .i64 0]) ∧ Cop (fun b => w.heap.size ≤ b) w' g cap cur zs ∧ zs.map (·.x) = save (newTr n)) ∧ Below w.heap.size w w' := by
  go_enter Try.func26, Try.ntmps26
  go_wp2
  refine bodyPost_ret (v := .tuple #[.agg #[.slice (some ⟨w.heap.size + 1, 0, none⟩) 1 1], .int .i64 0]) (by simp [results, Try.results26, go_sem]) rfl ⟨⟨w.heap.size + 1, 1, #[.int .i64 (-1), .int .i64 0, .int .i64 n, .slice none 0 0, .bool false], [⟨⟨-1, 0, n, [], false⟩, none, 0⟩], rfl, ?_, rfl⟩, ?_⟩
  · have hone : ∀ (i : Nat) (z : SZ), [(⟨⟨-1, 0, n, [], false⟩, none, 0⟩ : SZ)][i]? = some z → i = 0 ∧ z = ⟨⟨-1, 0, n, [], false⟩, none, 0⟩ := fun i z hz => by
      cases i with
      | zero => simp at hz; exact ⟨rfl, hz.symm⟩
      | succ i => simp at hz
    refine ⟨by show w.heap.size ≤ w.heap.size + 1; omega, ?_, rfl, by simp, by unfold maxLen; omega, fun i z hz => ?_, fun i z hz => ?_, fun i z b hz hb => ?_, fun i j a b hne ha hb => ?_⟩
    · first
        | rw [setCell_far _ _ _ _ (by show w.heap.size + 1 ≠ w.heap.size; omega), heapAlloc, if_pos (by simp)]
        | (rw [heapAlloc, if_pos (by simp)])
    · obtain ⟨rfl, rfl⟩ := hone i z hz
      exact ⟨rfl, rfl, rfl, rfl, rfl⟩
    · obtain ⟨rfl, rfl⟩ := hone i z hz
      exact World.ownsRow_nil _ _ _ _
    · obtain ⟨rfl, rfl⟩ := hone i z hz
      cases hb
    · have h1 := (hone i a ha).1
      have h2 := (hone j b hb).1
      omega
  · first
      | exact ((below_box w _).alloc (by simp) _).setCell (p := ⟨w.heap.size, 0, none⟩) (Nat.le_refl _) _
      | exact (below_box w _).alloc (by simp) _

/-- What Owner answers. -/
def OwnerOf (M : Tr) (y rs : Int) (e : Ending) : Prop := (y < 0 ∨ rs ≤ y) ∧ e = .returned (.tuple #[.int .i64 0, .int .i64 0, .int .i64 7]) ∨
      0 ≤ y ∧ y < rs ∧ ∃ k i, e = .returned (.tuple #[.int .i64 (k : Nat), .int .i64 i, .int .i64 0]) ∧ Owns M y k i
theorem OwnerOf.out {M : Tr} {y rs : Int} (h : y < 0 ∨ rs ≤ y) : OwnerOf M y rs (.returned (.tuple #[.int .i64 0, .int .i64 0, .int .i64 7])) := .inl ⟨h, rfl⟩
theorem OwnerOf.inn {M : Tr} {y rs : Int} (h1 : 0 ≤ y) (h2 : y < rs) (k : Nat) (i : Int) (h : Owns M y k i) : OwnerOf M y rs (.returned (.tuple #[.int .i64 (k : Nat), .int .i64 i, .int .i64 0])) := .inr ⟨h1, h2, k, i, rfl, h⟩

set_option maxRecDepth 100000 in
set_option maxHeartbeats 2000000 in
theorem ownerR_ok (K : Nat → Prop) (w : World) (A : Option Addr) (c : Nat) (M : Tr) (y : Int) (r : Node) (h : StK K w A c (save M)) (hg : Good M) (hr : M[0]? = some (some r)) :
    Calls Try.prog 49 #[.agg #[.slice A M.length c], .int .i64 y] w fun e w' => OwnerOf M y r.s e ∧ Below w.heap.size w w' := by
  obtain ⟨hc1, hc2⟩ := st_len h
  have hbx := below_box w (.cells #[.slice A M.length c] 28)
  have hS1 := h.below hbx
  have hm := hg.len
  have hp := hg.pos
  have hbc : (w.alloc (.cells #[.slice A M.length c] 28)).cell? ⟨w.heap.size, 0, none⟩ = some (.slice A M.length c) := by rw [World.cell?_alloc_at _ _ _ _ rfl]; rfl
  have hs1 : (w.alloc (.cells #[.slice A M.length c] 28)).heap.size = w.heap.size + 1 := by simp
  obtain ⟨g0, f0, B0, cB0, hA0, hgl0, _, _, p2, _, _, _⟩ := st_at hS1 hr
  replace p2 : (w.alloc (.cells #[.slice A M.length c] 28)).cell? ⟨g0, f0 + 0 * 5 + 2, none⟩ = some (.int .i64 r.s) := p2
  rw [show f0 + 0 * 5 + 2 = f0 + 2 by omega] at p2
  subst hA0
  by_cases hy0 : y < 0
  · have HB := Lib.hid hbx
    clear h hS1 hg hr hbx p2
    go_enter Try.func49, Try.ntmps49
    go_wp2
    go_ret3
    exact ⟨.out (.inl hy0), HB.out⟩
  · by_cases hy1 : r.s ≤ y
    · have HB := Lib.hid hbx
      clear h hS1 hg hr hbx
      go_enter Try.func49, Try.ntmps49
      go_wp2
      go_ret3
      exact ⟨.out (.inr hy1), HB.out⟩
    · obtain ⟨d, D, hrk⟩ := hg.ranked
      obtain ⟨r', hr', hra⟩ := hg.root
      have : r' = r := by rw [hr] at hr'; injection hr' with e; injection e with e; exact e.symm
      subst this
      have HS := Lib.hid (fun (j : Nat) (n : Node) (hj : M[j]? = some (some n)) => st_at hS1 hj)
      have HG := Lib.hid (And.intro hg (And.intro hrk (And.intro hr (And.intro hra hbx))))
      have hD := hrk.top
      have HD := Lib.hid hD
      clear h hS1 hg hr hr' hra hrk hbx hD
      have hy2 : 0 ≤ y := by omega
      have hy3 : y < r'.s := by omega
      go_enter Try.func49, Try.ntmps49
      go_wp2_with fail
      generalize (w.alloc (.cells #[.slice (some ⟨g0, f0, none⟩) M.length c] 28)) = W1 at *
      go_loopw [7, 8, 9, 10] (fun nd it i _ wr => ∃ (k : Nat) (n : Node) (j : Nat), nd = .int .i64 k ∧ it = .int .i64 (-1) ∧ i = .int .i64 j ∧ M[k]? = some (some n) ∧ n.a ≤ y ∧ y < n.a + n.s ∧ j ≤ n.l.length ∧ (∀ (t : Nat) (x : Item), t < j → n.l[t]? = some x → hasByte y x = false) ∧ Below W1.heap.size W1 wr) (fun nd _ i _ _ => (D - d (intOf nd).toNat) * 202 + (201 - (intOf i).toNat))
      case atStart => exact ⟨0, r', 0, rfl, rfl, rfl, HG.out.2.2.1, by rw [HG.out.2.2.2.1]; omega, by rw [HG.out.2.2.2.1]; omega, Nat.zero_le _, fun t x ht => by omega, Below.refl _ _⟩
      case round =>
        obtain ⟨k, n, j, rfl, rfl, rfl, hk, ha, hs, hj, hno, hb⟩ := hrel
        have hbs := hb.size
        have hok := HG.out.1.node k n hk
        have hl200 := hok.len
        have hkl := (List.getElem?_eq_some_iff.1 hk).1
        obtain ⟨g, f, B, cB, hAA, hgl, _, _, _, p3, _, hR⟩ := HS.out k n hk
        injection hAA with hAA
        injection hAA with e1 e2
        subst e1 e2
        obtain ⟨hr1, hr2⟩ := row_len hR
        have hr1' : n.l.length ≤ cB := hr1
        replace p3 : wr.cell? ⟨g0, f0 + k * 5 + 3, none⟩ = some (.slice B n.l.length cB) := (hb.cell (p := ⟨g0, _, none⟩) hgl).trans p3
        have hbr := (hb.cell (p := ⟨w.heap.size, _, none⟩) (show w.heap.size < W1.heap.size by omega)).trans hbc
        have hdD := HD.out k
        by_cases hlt : j < n.l.length
        · obtain ⟨x, hx⟩ : ∃ x, n.l[j]? = some x := ⟨_, List.getElem?_eq_getElem hlt⟩
          obtain ⟨g', f', rfl, hg', k1, k2, k3⟩ := row_at hR hx
          replace k1 := (hb.cell (p := ⟨g', _, none⟩) hg').trans k1
          replace k2 := (hb.cell (p := ⟨g', _, none⟩) hg').trans k2
          replace k3 := (hb.cell (p := ⟨g', _, none⟩) hg').trans k3
          obtain ⟨b1, b2, b3⟩ := small_of hok x (List.mem_of_getElem? hx)
          have hby : (y < x.a ∨ x.a + x.s ≤ y) → hasByte y x = false := fun h => by
            unfold hasByte
            rcases h with h | h
            · rw [decide_eq_false (show ¬ x.a ≤ y by omega)]; rfl
            · rw [decide_eq_false (show ¬ y < x.a + x.s by omega)]; simp
          have HE := Lib.hid (And.intro hk (And.intro hok (And.intro hno (And.intro hb (And.intro hx hby)))))
          clear hk hok hno hb hx hby hR
          by_cases c1 : y < x.a
          · go_wp2
            go_roundw
            case rel =>
              refine ⟨k, n, j + 1, rfl, rfl, by go_num, HE.out.1, ha, hs, by omega, fun t z ht hz => ?_, HE.out.2.2.2.1.alloc hbs _⟩
              by_cases e : t = j
              · subst e
                rw [HE.out.2.2.2.2.1] at hz
                injection hz with hz
                rw [← hz]; exact HE.out.2.2.2.2.2 (.inl c1)
              · exact HE.out.2.2.1 t z (by omega) hz
            case measure => simp [intOf]; omega
          · by_cases c2 : x.a + x.s ≤ y
            · go_wp2
              go_roundw
              case rel =>
                refine ⟨k, n, j + 1, rfl, rfl, by go_num, HE.out.1, ha, hs, by omega, fun t z ht hz => ?_, HE.out.2.2.2.1.alloc hbs _⟩
                by_cases e : t = j
                · subst e
                  rw [HE.out.2.2.2.2.1] at hz
                  injection hz with hz
                  rw [← hz]; exact HE.out.2.2.2.2.2 (.inr c2)
                · exact HE.out.2.2.1 t z (by omega) hz
              case measure => simp [intOf]; omega
            · have hyes : hasByte y x = true := by unfold hasByte; simp; omega
              have HY := Lib.hid hyes
              clear hyes
              have c3 : ¬ (y < x.a) := c1
              have c4 : y < x.a + x.s := by omega
              by_cases hc : x.c < 0
              · go_wp2
                go_ret3
                refine ⟨.inn hy2 hy3 k j ⟨n, HE.out.1, ha, hs, (fidx_is HE.out.2.2.2.2.1 HY.out HE.out.2.2.1).symm, fun z _ hz => ?_⟩, HG.out.2.2.2.2.trans ((HE.out.2.2.2.1.alloc hbs _).mono HG.out.2.2.2.2.size)⟩
                rw [Int.toNat_natCast, HE.out.2.2.2.2.1] at hz
                injection hz with hz
                rw [← hz]; exact hc
              · have hc0 : 0 ≤ x.c := by omega
                have hxm := List.mem_of_getElem? HE.out.2.2.2.2.1
                obtain ⟨q, hq, q1, q2, q3⟩ := HE.out.2.1.kid x hxm hc0
                have hdd := HG.out.2.1.kid k n HE.out.1 x hxm hc0
                have hdD2 := HD.out x.c.toNat
                have HQ := Lib.hid hq
                clear hq
                go_wp2
                go_roundw
                case rel => exact ⟨x.c.toNat, q, 0, by rw [Int.toNat_of_nonneg hc0], rfl, by go_num, HQ.out, by omega, by omega, Nat.zero_le _, fun t z ht => by omega, HE.out.2.2.2.1.alloc hbs _⟩
                case measure => simp [intOf]; omega
        · obtain rfl : j = n.l.length := by omega
          have HE := Lib.hid (And.intro hk (And.intro hno hb))
          clear hk hok hno hb hR
          go_wp2
          go_ret3
          refine ⟨.inn hy2 hy3 k (-1) ⟨n, HE.out.1, ha, hs, (fidx_no HE.out.2.1).symm, fun z hz => by omega⟩, HG.out.2.2.2.2.trans (HE.out.2.2.mono HG.out.2.2.2.2.size)⟩
end Ne
end Go.Proofs.Ytllmddhahpegmaa
namespace Go.Proofs.Ytllmddhahpegmaa
namespace Ne

theorem Under.empty {M : Tr} (h : Good M) {k : Int} (hf : find M k = none) {m : Nat} {L : List Nat} (hL : Under M k m L) : L = [] := by
  cases L with
  | nil => rfl
  | cons i l =>
    obtain ⟨_, ho, h0, hA⟩ := (hL.2 i).1 List.mem_cons_self
    obtain ⟨q, hq⟩ := anc_opn h hA ho
    unfold find at hf
    rw [if_neg (by omega), hq] at hf
    cases hf

theorem stop_err {M : Tr} (h : Good M) {F : Nat} {k : Int} {M' : Tr} {e : Int} (he : stopAt M F k = (M', e)) (hne : e ≠ 0) {m : Nat} {L : List Nat} (hL : Under M k m L) : M' = M ∧ (k = 0 ∨ (e = 4 ∧ L = [])) := by
  unfold stopAt at he
  cases hf : find M k with
  | none =>
    rw [hf] at he
    injection he with h1 h2
    exact ⟨h1.symm, .inr ⟨h2.symm, hL.empty h hf⟩⟩
  | some n =>
    rw [hf] at he
    dsimp only at he
    split at he
    · injection he with h1 h2
      exact ⟨h1.symm, .inl (by assumption)⟩
    · split at he
      · split at he
        · injection he with h1 h2; exact absurd h2.symm hne
        · injection he with h1 h2; exact absurd h2.symm hne
      · injection he with h1 h2; exact absurd h2.symm hne

theorem stop_pos {M : Tr} {F : Nat} {k : Int} {M' : Tr} (he : stopAt M F k = (M', 0)) : 0 ≤ k := by
  unfold stopAt at he
  cases hf : find M k with
  | none => rw [hf] at he; injection he with _ h2; exact absurd h2 (by decide)
  | some n => exact (find_some hf).1

/-- Of an arena that stays: what becomes of an item. -/
def ItemStays (k : Int) (m : List Item) (j : Nat) (x : Item) : Prop :=
  (∀ y, m[j]? = some y → (y = x ∧ x.c ≠ k) ∨ (x.c = k ∧ y.a = x.a ∧ y.s = x.s ∧ y.c = -2)) ∧ (m.length ≤ j → x.c = k ∨ x.c = -2)

theorem ends_law {M : Tr} (h : Good M) {F : Nat} (hF : Big M F) {k : Int} {M' : Tr} (he : stopAt M F k = (M', 0)) {L : List Nat} (hL : Under M k M.length L) (i : Nat) (a : Node) (hi : M[i]? = some (some a)) :
    (i ∈ L ∧ ∀ b, M'[i]? ≠ some (some b)) ∨ (i ∉ L ∧ ∃ b, M'[i]? = some (some b) ∧ b.a = a.a ∧ b.s = a.s ∧ b.p = a.p ∧ b.l.length ≤ a.l.length ∧ ∀ j x, a.l[j]? = some x → ItemStays k b.l j x) := by
  obtain ⟨d, D, hr, hD⟩ := hF
  unfold stopAt at he
  cases hf : find M k with
  | none => rw [hf] at he; injection he with _ h2; exact absurd h2 (by decide)
  | some n =>
    obtain ⟨h0, hk⟩ := find_some hf
    rw [hf] at he
    dsimp only at he
    split at he
    · injection he with _ h2; exact absurd h2 (by decide)
    next hk0 =>
    obtain ⟨k, rfl⟩ := Int.eq_ofNat_of_zero_le h0
    rw [Int.toNat_natCast] at hk
    obtain ⟨hp0, q, x, hq, hx, hxc, _⟩ := stop_finds h hk (by omega)
    rw [hq] at he
    dsimp only at he
    rw [hx] at he
    injection he with he _
    obtain ⟨p, hp⟩ := Int.eq_ofNat_of_zero_le hp0
    rw [hp, Int.toNat_natCast] at hq he
    have hsub : [x].Sublist q.l := List.singleton_sublist.2 (List.mem_of_getElem? hx)
    have hO := fun j b => prune_open h hr hq hsub (F := F) (by omega) j b
    have hgone : ∀ j, Gone M [x] j ↔ Anc M j k := by
      intro j
      constructor
      · rintro ⟨y, hy, _, hA⟩
        rw [List.mem_singleton] at hy
        subst hy
        rwa [hxc, Int.toNat_natCast] at hA
      · intro hA
        exact ⟨x, List.mem_singleton.2 rfl, by omega, by rw [hxc, Int.toNat_natCast]; exact hA⟩
    have hin : i ∈ L ↔ Anc M i k := by
      rw [hL.2, Int.toNat_natCast]
      exact ⟨fun e => e.2.2.2, fun e => ⟨(List.getElem?_eq_some_iff.1 hi).1, ⟨a, hi⟩, by omega, e⟩⟩
    have hpn := not_gone h hr hq hsub
    have hpl : p < (trim (shut F M [x])).length := (List.getElem?_eq_some_iff.1 ((hO p q).2 ⟨hq, hpn⟩)).1
    subst he
    by_cases hA : Anc M i k
    · left
      refine ⟨hin.2 hA, fun b hb => ?_⟩
      have hne : p ≠ i := fun e => by subst e; exact hpn ((hgone p).2 hA)
      rw [List.getElem?_set_ne hne] at hb
      exact ((hO i b).1 hb).2 ((hgone i).2 hA)
    · right
      refine ⟨fun e => hA (hin.1 e), ?_⟩
      by_cases e : p = i
      · subst e
        rw [hq] at hi
        injection hi with hi; injection hi with hi
        subst hi
        refine ⟨_, List.getElem?_set_self hpl, rfl, rfl, rfl, ?_, ?_⟩
        · have := (tidy_sub (q.l.set (placeOf q k) (asHole x))).length_le
          simpa using this
        · intro j y hy
          obtain ⟨m, hm, htk, hback, _⟩ := tidy_prefix (q.l.set (placeOf q k) (asHole x))
          have hne : j ≠ placeOf q k → y.c ≠ (k : Int) := by
            intro hjp hyc
            have hun := List.pairwise_iff_getElem.1 (h.node _ _ hq).uniq
            obtain ⟨l1, e1⟩ := List.getElem?_eq_some_iff.1 hy
            obtain ⟨l2, e2⟩ := List.getElem?_eq_some_iff.1 hx
            rcases Nat.lt_or_ge j (placeOf q k) with hlt | hge
            · have := hun j (placeOf q k) l1 l2 hlt (by rw [e1]; omega)
              rw [e1, e2] at this
              omega
            · have := hun (placeOf q k) j l2 l1 (by omega) (by rw [e2]; omega)
              rw [e1, e2] at this
              omega
          have hjl : j < q.l.length := (List.getElem?_eq_some_iff.1 hy).1
          refine ⟨fun z hz => ?_, fun hlen => ?_⟩
          · dsimp only at hz
            rw [htk, List.getElem?_take] at hz
            split at hz
            · by_cases hjp : j = placeOf q k
              · rw [hjp, List.getElem?_set_self (by rw [← hjp]; exact hjl)] at hz
                injection hz with hz
                rw [hjp, hx] at hy
                injection hy with hy
                subst hy hz
                exact .inr ⟨hxc, rfl, rfl, rfl⟩
              · rw [List.getElem?_set_ne (Ne.symm hjp), hy] at hz
                injection hz with hz
                exact .inl ⟨hz.symm, hne hjp⟩
            · cases hz
          · dsimp only at hlen
            rw [htk, List.length_take, Nat.min_eq_left hm] at hlen
            by_cases hjp : j = placeOf q k
            · rw [hjp, hx] at hy
              injection hy with hy
              subst hy
              exact .inl hxc
            · exact .inr (hback j y hlen (by rw [List.getElem?_set_ne (Ne.symm hjp)]; exact hy))
      · refine ⟨a, by rw [List.getElem?_set_ne e]; exact (hO i a).2 ⟨hi, fun hg => hA ((hgone i).1 hg)⟩, rfl, rfl, rfl, Nat.le_refl _, fun j y hy => ?_⟩
        have hyc : y.c ≠ (k : Int) := by
          intro hyc
          obtain ⟨z, hz, hzp, _⟩ := h.kid hi (List.mem_of_getElem? hy) (by omega)
          rw [hyc, Int.toNat_natCast, hk] at hz
          injection hz with hz; injection hz with hz
          subst hz
          omega
        refine ⟨fun z hz => ?_, fun hlen => ?_⟩
        · rw [hy] at hz
          injection hz with hz
          exact .inl ⟨hz.symm, hyc⟩
        · have := (List.getElem?_eq_some_iff.1 hy).1
          omega
end Ne
end Go.Proofs.Ytllmddhahpegmaa
