/- The walk of BuddyPlays. -/
import Derived.Test.YtdanhbbdkcbapaaJOX
import Derived.Deep.QuietTactic
import Derived.BigQuiet
import Derived.Deep.RegionWith
import Derived.StillTailTactics
import Derived.Deep.CutRange
import Derived.Deep.RegionHeld3
import Derived.Outline
namespace Go.Proofs.Ytdanhbbdkcbapaa
open Go.RowKit
namespace Bu

/-- What holds between two calls: S is the box of the state. -/
structure PI (N : Nat) (w : World) (S : Nat) (wr : World) (b c : Nat) (A : Option Addr) (L : List Blk) : Prop where
  bu : BuL wr b N L
  blk : BlkAt wr A c L
  lies : Lies wr b A
  box : wr.heap[S]? = some (.cells #[.int .i64 (N : Int), .slice A L.length c] 24 (0, 0))
  ne : A.map (·.block) ≠ some S
  bs : b ≠ S
  bw : w.heap.size ≤ b
  sw : w.heap.size ≤ S
  below : Below w.heap.size w wr

theorem PI.next {N S b c : Nat} {w wr w' : World} {A : Option Addr} {L : List Blk} {e : Ending} (h : PI N w S wr b c A L) (hr : StepR N wr b A e w') :
    ∃ b' A' c' L', e = .returned (.tuple #[.pointer (some ⟨b', 0, none⟩), sv N A' (L' : List Blk).length c', .int .i64 0]) ∧
      w'.heap[S]? = some (.cells #[.int .i64 (N : Int), .slice A L.length c] 24 (0, 0)) ∧
      PI N w S ((w'.setCell ⟨S, 0, none⟩ (.int .i64 (N : Int))).setCell ⟨S, 1, none⟩ (.slice A' L'.length c')) b' c' A' L' := by
  obtain ⟨b', A', c', L', he, h1, h2, h3, h4, h5, h6⟩ := hr
  have hSl := lt_of_heap h.box
  have hbx : w'.heap[S]? = some (.cells #[.int .i64 (N : Int), .slice A L.length c] 24 (0, 0)) := heap_grow h6 h.bs.symm h.box
  have hws := h.below.size
  have hwb := h.bw
  have hws2 := h.sw
  have hsz := h6.size
  have hbs : b' ≠ S := by
    rcases h4 with e | e
    · rw [e]; exact h.bs
    · omega
  have hA : A'.map (·.block) ≠ some S := by
    rcases h5 with e | e
    · rw [e]; exact h.ne
    · exact fun e2 => by have := e S e2; omega
  have hfar : ∀ g, g ≠ S → ((w'.setCell ⟨S, 0, none⟩ (.int .i64 (N : Int))).setCell ⟨S, 1, none⟩ (.slice A' L'.length c')).heap[g]? = w'.heap[g]? := fun g hg => (setCell_far _ _ _ _ hg).trans (setCell_far _ _ _ _ hg)
  have hsf : ((w'.setCell ⟨S, 0, none⟩ (.int .i64 (N : Int))).setCell ⟨S, 1, none⟩ (.slice A' L'.length c')).heap.size = w'.heap.size := by rw [setCell_size, setCell_size]
  refine ⟨b', A', c', L', he, hbx, h1.keep (hfar _ hbs), h2.keep (by omega) (fun g e hl => hfar g (fun e2 => hA (by rw [e, e2]))), fun g e => ?_, two_set hbx _ _, hA, hbs, ?_, h.sw, ?_⟩
  · have := h3 g e
    exact ⟨by omega, this.2⟩
  · rcases h4 with e | e <;> omega
  · exact h.below.trans ⟨h6.os, h6.tape, h6.output, by omega, fun k hk => (hfar k (by omega)).trans (h6.block k (by omega) (by omega))⟩

theorem PI.keep {N S b c : Nat} {w wr w' : World} {A : Option Addr} {L : List Blk} (h : PI N w S wr b c A L) (hb : Below wr.heap.size wr w') : PI N w S w' b c A L :=
  ⟨h.bu.keep (hb.block _ h.bu.lt), h.blk.below hb, fun g e => ⟨by have := (h.lies g e).1; have := hb.size; omega, (h.lies g e).2⟩, heap_below hb h.box, h.ne, h.bs, h.bw, h.sw, h.below.trans (hb.mono h.below.size)⟩

theorem acts_at {w w' : World} {A : Option Addr} {c : Nat} {l : List Act} (h : ActsAt w A c l) (hb : Below w.heap.size w w') {j : Nat} {x : Act} (hj : l[j]? = some x) :
    ∃ g o, A = some ⟨g, o, none⟩ ∧ (0 ≤ x.what ∧ x.what < 256) ∧ w'.cell? ⟨g, o + j * 3, none⟩ = some (.int .u8 x.what) ∧ w'.cell? ⟨g, o + j * 3 + 1, none⟩ = some (.int .i64 x.page) ∧ w'.cell? ⟨g, o + j * 3 + 2, none⟩ = some (.int .i64 x.order) := by
  obtain ⟨g, o, hA, hg, h1, h2, c0, c1, c2⟩ := h.2.2 j x hj
  exact ⟨g, o, hA, ⟨h1, h2⟩, (hb.cell (p := ⟨g, _, none⟩) hg).trans c0, (hb.cell (p := ⟨g, _, none⟩) hg).trans c1, (hb.cell (p := ⟨g, _, none⟩) hg).trans c2⟩

attribute [local irreducible] wpStill
set_option maxRecDepth 100000 in
set_option maxHeartbeats 8000000 in
theorem plays_in (w : World) (N : Nat) (At : Option Addr) (ct : Nat) (l : List Act) (hN : N ≤ 10) (h : ActsAt w At ct l) (h80 : l.length ≤ 80) :
    Calls Try.prog 9 #[.int .i64 (N : Int), .slice At l.length ct] w fun e w' => e = .returned (.bool true) ∧ Below w.heap.size w w' := by
  have HN := Lib.hid (newL_ok w N hN)
  have HA := Lib.hid h
  have t1 : ¬ (N : Int) < 0 := by omega
  have t2 : ¬ (N : Int) > 10 := by omega
  have t3 : ¬ (l.length : Int) > 80 := by omega
  clear h
  go_enter Try.func9, Try.ntmps9
  go_wp2_with (go_at_call 26; refine HN.out.mono ?_; rintro e w1 ⟨rfl, hB, hb⟩; have H1 := Lib.hid (And.intro hB hb); clear hB hb)
  have hS1 := H1.out.2.size
  have hbl := H1.out.1.lt
  have HP := Lib.hid (show PI N w w1.heap.size (w1.alloc (.cells #[.int .i64 (N : Int), .slice none 0 0] 24)) w.heap.size 0 none [] from
    ⟨H1.out.1.keep (alloc_old _ _ _ hbl), ⟨Nat.le_refl _, Nat.zero_le _, fun j x hx => by simp at hx⟩, fun g e => (by cases e), by rw [heapAlloc, if_pos rfl]; rfl, fun e => (by cases e), by omega, Nat.le_refl _, hS1, H1.out.2.alloc hS1 _⟩)
  generalize (w1.alloc (.cells #[.int .i64 (N : Int), .slice none 0 0] 24)) = W2 at *
  generalize w1.heap.size = S at *
  go_loopw [5, 6, 8] (fun p _ i wr => ∃ (k b c : Nat) (A : Option Addr) (L : List Blk), k ≤ l.length ∧ p = .pointer (some ⟨b, 0, none⟩) ∧ i = .int .i64 (k : Int) ∧ PI N w S wr b c A L) (fun _ _ i _ => l.length - (intOf i).toNat)
  case atStart => exact ⟨0, w.heap.size, 0, none, [], Nat.zero_le _, rfl, rfl, HP.out⟩
  case round =>
    obtain ⟨k, b, c, A, L, hk, rfl, rfl, hP⟩ := hrel
    have HQ := Lib.hid hP
    clear hP
    by_cases hlt : k < l.length
    · obtain ⟨x, hx⟩ : ∃ x, l[k]? = some x := ⟨_, List.getElem?_eq_getElem hlt⟩
      obtain ⟨g, o, hAt, hwh, c0, c1, c2⟩ := acts_at HA.out HQ.out.below hx
      obtain ⟨s0, s1, f0, f1⟩ := two_cells HQ.out.box
      have e0 : (0 : Int) ≤ (k : Int) := by omega
      have e1 : (k : Int) < (l.length : Int) := by omega
      have hkk : IntKind.i64.wrap ((k : Int) + 1) = ((k + 1 : Nat) : Int) := by rw [IntWalk.i64_in _ (by omega)]; rfl
      have hst := step_any (World.drew wr) b N A c L x hwh.1 hwh.2 (HQ.out.bu.keep rfl) (HQ.out.blk.keep (Nat.le_refl _) (fun _ _ _ => rfl)) HQ.out.lies
      have HS := Lib.hid hst
      subst hAt
      clear hst hx hwh
      obtain ⟨what, page, order⟩ := x
      dsimp only at c0 c1 c2
      go_upto_region 10 with (fail)
      go_cut [5, 6] from 43 to 68 (fun p ev wx => ∃ (b' c' : Nat) (A' : Option Addr) (L' : List Blk), p = .pointer (some ⟨b', 0, none⟩) ∧ ev = .int .i64 0 ∧ PI N w S wx b' c' A' L')
      case first =>
        have HQd := Lib.hid (HQ.out.keep (w' := World.drew wr) ⟨rfl, rfl, rfl, Nat.le_refl _, fun _ _ => rfl⟩)
        go_region_with (go_at_call 27; refine HS.out.mono ?_; intro e w6 hr; obtain ⟨b', A', c', L', rfl, hbx, hP⟩ := HQd.out.next hr; obtain ⟨s0, s1, f0, f1⟩ := two_cells hbx; have H6 := Lib.hid hP; clear hP hbx hr)
        all_goals
          go_wp2_with (fail)
          go_meet
          exact ⟨b', c', A', L', rfl, rfl, H6.out⟩
      case rest =>
        obtain ⟨b', c', A', L', rfl, rfl, hP⟩ := hcut
        obtain ⟨s0, s1, f0, f1⟩ := two_cells hP.box
        have hPd := hP.keep (w' := World.drew wc) ⟨rfl, rfl, rfl, Nat.le_refl _, fun _ _ => rfl⟩
        have HPd := Lib.hid hPd
        clear hP hPd
        go_wp2_with (fail)
        go_region_with (first | (go_at_call 20; refine (save_ok (World.drew wc) b' N L' HPd.out.bu).mono ?_; rintro e w7 ⟨⟨A7, c7, rfl, ho⟩, hb7⟩; have hP7 := HPd.out.keep hb7; obtain ⟨s2, s3, f2, f3⟩ := two_cells hP7.box; have H7 := Lib.hid (And.intro hP7 ho.at.1); clear hP7 ho hb7) | (go_at_call 19; refine (same_self w7 N A7 A' c7 c' L' H7.out.2 H7.out.1.blk).mono ?_; rintro e w8 ⟨rfl, hb8⟩; have H8 := Lib.hid (H7.out.1.keep hb8); clear hb8))
        all_goals
          go_wp2_with (fail)
          go_roundw
          case rel => exact ⟨k + 1, b', c', A', L', by omega, rfl, by go_num, H8.out⟩
          case measure => simp [intOf]; omega
    · obtain rfl : k = l.length := by omega
      have t4 : ¬ ((l.length : Nat) : Int) < (l.length : Int) := by omega
      go_wp2_with (go_at_call 11; refine (shown_ok _).mono ?_; rintro e w7 ⟨rfl, hb⟩; have H7 := Lib.hid (below_step HQ.out.below hb (Nat.le_refl _)); clear hb)
      go_ret
      exact ⟨rfl, H7.out⟩
end Bu
end Go.Proofs.Ytdanhbbdkcbapaa
