/- Same: equal states are the same. What is done with an arena, and with what it gives, does not reach the rest: Rewind undoes it. A row of integers beside a tree: the arenas that were begun since. -/
import Derived.Test.YtllmddhahpegmaaM8
import Derived.Deep.RegionHeld3
import Derived.Deep.CutRange
import Derived.Test.YtllmddhahpegmaaM9
namespace Go.Proofs.Ytllmddhahpegmaa
open Go.RowKit
namespace Ne

set_option maxRecDepth 100000 in
theorem same_ok (w : World) (K K' : Nat → Prop) (A B : Option Addr) (c c' : Nat) (s : List SN) (hA : StK K w A c s) (hB : StK K' w B c' s) :
    Calls Try.prog 23 #[.agg #[.slice A s.length c], .agg #[.slice B s.length c']] w fun e w' => e = .returned (.bool true) ∧ Below w.heap.size w w' := by
  obtain ⟨ha1, ha2, hA3⟩ := hA
  obtain ⟨hb1, hb2, hB3⟩ := hB
  have HA := Lib.hid hA3
  have HB := Lib.hid hB3
  clear hA3 hB3
  unfold maxLen at ha2 hb2
  generalize hn : s.length = n at *
  have HN := Lib.hid hn
  clear hn
  go_enter Try.func23, Try.ntmps23
  go_wp2_with fail
  have hb0 : Below w.heap.size w ((w.alloc (.cells #[.slice A n c] 28)).alloc (.cells #[.slice B n c'] 28)) := ((Below.refl _ _).alloc (Nat.le_refl _) _).alloc (by simp) _
  have r2 : ((w.alloc (.cells #[.slice A n c] 28)).alloc (.cells #[.slice B n c'] 28)).cell? ⟨w.heap.size, 0, none⟩ = some (.slice A n c) := by
    rw [World.cell?_alloc_lt _ _ _ (by simp), World.cell?_alloc_at _ _ _ _ rfl]; rfl
  have r3 : ((w.alloc (.cells #[.slice A n c] 28)).alloc (.cells #[.slice B n c'] 28)).cell? ⟨w.heap.size + 1, 0, none⟩ = some (.slice B n c') := by
    rw [World.cell?_alloc_at _ _ _ _ (by simp)]; rfl
  have hsz : ((w.alloc (.cells #[.slice A n c] 28)).alloc (.cells #[.slice B n c'] 28)).heap.size = w.heap.size + 2 := by simp
  generalize ((w.alloc (.cells #[.slice A n c] 28)).alloc (.cells #[.slice B n c'] 28)) = W1 at *
  have HW := Lib.hid hb0
  clear hb0
  go_loopw [5, 6, 7, 8] (fun i _ _ _ wr => ∃ j : Nat, j ≤ n ∧ i = .int .i64 j ∧ Below W1.heap.size W1 wr) (fun i _ _ _ _ => n - (intOf i).toNat)
  case atStart => exact ⟨0, Nat.zero_le _, rfl, Below.refl _ _⟩
  case round =>
    obtain ⟨j, hj, rfl, hb⟩ := hrel
    have y2 : wr.cell? ⟨w.heap.size, 0, none⟩ = some (.slice A n c) := (hb.cell (p := ⟨w.heap.size, 0, none⟩) (show w.heap.size < W1.heap.size by omega)).trans r2
    have y3 : wr.cell? ⟨w.heap.size + 1, 0, none⟩ = some (.slice B n c') := (hb.cell (p := ⟨w.heap.size + 1, 0, none⟩) (show w.heap.size + 1 < W1.heap.size by omega)).trans r3
    by_cases hjl : j < n
    · obtain ⟨x, hx⟩ : ∃ x, s[j]? = some x := ⟨_, List.getElem?_eq_getElem (by have := HN.out; omega)⟩
      obtain ⟨ga, oa, A2, cA, rfl, _, ⟨cura, hcura⟩, p0, p1, p2, p3, p4, hRA⟩ := HA.out j x hx
      obtain ⟨gb, ob, B2, cB, rfl, _, ⟨curb, hcurb⟩, q0, q1, q2, q3, q4, hRB⟩ := HB.out j x hx
      have hga := lt_of_heap hcura
      have hgb := lt_of_heap hcurb
      have hbw : Below w.heap.size w wr := HW.out.trans (hb.mono (by omega))
      have p0 := (hbw.cell (p := ⟨ga, _, none⟩) hga).trans p0
      have p1 := (hbw.cell (p := ⟨ga, _, none⟩) hga).trans p1
      have p2 := (hbw.cell (p := ⟨ga, _, none⟩) hga).trans p2
      have p3 := (hbw.cell (p := ⟨ga, _, none⟩) hga).trans p3
      have p4 := (hbw.cell (p := ⟨ga, _, none⟩) hga).trans p4
      have q0 := (hbw.cell (p := ⟨gb, _, none⟩) hgb).trans q0
      have q1 := (hbw.cell (p := ⟨gb, _, none⟩) hgb).trans q1
      have q2 := (hbw.cell (p := ⟨gb, _, none⟩) hgb).trans q2
      have q3 := (hbw.cell (p := ⟨gb, _, none⟩) hgb).trans q3
      have q4 := (hbw.cell (p := ⟨gb, _, none⟩) hgb).trans q4
      have hbs := hb.size
      have HI := Lib.hid (And.intro hb (And.intro hbw (And.intro hRA hRB)))
      clear hb hbw hRA hRB hcura hcurb hx
      generalize x.p = xp at *
      generalize x.a = xa at *
      generalize x.s = xs at *
      generalize x.cl = xc at *
      have n2 := World.new_ne wr _ y2
      have n3 := World.new_ne wr _ y3
      have np := World.new_ne wr _ p0
      have nq := World.new_ne wr _ q0
      have hwsz : w.heap.size < wr.heap.size := by omega
      have hwsz1 : w.heap.size + 1 < wr.heap.size := by omega
      have hgaw : ga < wr.heap.size := by omega
      have hgbw : gb < wr.heap.size := by omega
      go_upto_region 6 with (fail)
      go_cut [6, 7] from 16 to 85 (fun u v wx => ∃ g1 g2, u = .pointer (some ⟨g1, 0, none⟩) ∧ v = .pointer (some ⟨g2, 0, none⟩) ∧ Below wr.heap.size wr wx ∧ g1 < wx.heap.size ∧ g2 < wx.heap.size ∧
        wx.cell? ⟨g1, 0, none⟩ = some (.int .i64 xp) ∧ wx.cell? ⟨g1, 1, none⟩ = some (.int .i64 xa) ∧ wx.cell? ⟨g1, 2, none⟩ = some (.int .i64 xs) ∧ wx.cell? ⟨g1, 3, none⟩ = some (.slice A2 x.l.length cA) ∧ wx.cell? ⟨g1, 4, none⟩ = some (.bool xc) ∧
        wx.cell? ⟨g2, 0, none⟩ = some (.int .i64 xp) ∧ wx.cell? ⟨g2, 1, none⟩ = some (.int .i64 xa) ∧ wx.cell? ⟨g2, 2, none⟩ = some (.int .i64 xs) ∧ wx.cell? ⟨g2, 3, none⟩ = some (.slice B2 x.l.length cB) ∧ wx.cell? ⟨g2, 4, none⟩ = some (.bool xc))
      case first =>
        go_region_held3 (fun w' => w'.cell? ⟨w.heap.size, 0, none⟩ = some (.slice (some ⟨ga, oa, none⟩) n c) ∧ w'.cell? ⟨w.heap.size + 1, 0, none⟩ = some (.slice (some ⟨gb, ob, none⟩) n c') ∧
          w'.cell? ⟨ga, oa + j * 5, none⟩ = some (.int .i64 xp) ∧ w'.cell? ⟨ga, oa + j * 5 + 1, none⟩ = some (.int .i64 xa) ∧ w'.cell? ⟨ga, oa + j * 5 + 2, none⟩ = some (.int .i64 xs) ∧ w'.cell? ⟨ga, oa + j * 5 + 3, none⟩ = some (.slice A2 x.l.length cA) ∧ w'.cell? ⟨ga, oa + j * 5 + 4, none⟩ = some (.bool xc) ∧
          w'.cell? ⟨gb, ob + j * 5, none⟩ = some (.int .i64 xp) ∧ w'.cell? ⟨gb, ob + j * 5 + 1, none⟩ = some (.int .i64 xa) ∧ w'.cell? ⟨gb, ob + j * 5 + 2, none⟩ = some (.int .i64 xs) ∧ w'.cell? ⟨gb, ob + j * 5 + 3, none⟩ = some (.slice B2 x.l.length cB) ∧ w'.cell? ⟨gb, ob + j * 5 + 4, none⟩ = some (.bool xc)) (go_keep) (fail)
        all_goals (go_wp2_with fail)
        all_goals go_meet
        all_goals
          refine ⟨_, _, rfl, rfl, ?_, by simp <;> omega, by simp <;> omega, ?_, ?_, ?_, ?_, ?_, ?_, ?_, ?_, ?_, ?_⟩
          · first
              | exact (((Below.refl _ _).alloc (Nat.le_refl _) _).alloc (by simp) _).drew
              | exact (((Below.refl _ _).drew.alloc (Nat.le_refl _) _).alloc (by simp) _)
          all_goals first
            | (rw [World.cell?_drew, World.cell?_alloc_lt _ _ _ (by simp), World.cell?_alloc_at _ _ _ _ rfl]; rfl)
            | (rw [World.cell?_drew, World.cell?_alloc_at _ _ _ _ (by simp)]; rfl)
      case rest =>
        obtain ⟨g1, g2, rfl, rfl, hbx, hg1, hg2, a0, a1, a2, a3, a4, b0, b1, b2, b3, b4⟩ := hcut
        have HX := Lib.hid hbx
        have hbxs := hbx.size
        clear hbx p0 p1 p2 p3 p4 q0 q1 q2 q3 q4 y2 y3 n2 n3 np nq r2 r3
        go_wp2_with fail
        have hRl := HI.out.2.2.1.1
        have hRm := HI.out.2.2.1.2.1
        have hRl' := HI.out.2.2.2.1
        have hRm' := HI.out.2.2.2.2.1
        unfold maxLen at hRm hRm'
        go_loopw [8] (fun i wr' => ∃ j' : Nat, j' ≤ x.l.length ∧ i = .int .i64 j' ∧ Below wc.heap.size wc wr') (fun i _ => x.l.length - (intOf i).toNat)
        case atStart => exact ⟨0, Nat.zero_le _, rfl, Below.refl _ _⟩
        case round =>
          obtain ⟨j', hj', rfl, hb'⟩ := hrel
          have a3 := (hb'.cell (p := ⟨g1, _, none⟩) hg1).trans a3
          have b3 := (hb'.cell (p := ⟨g2, _, none⟩) hg2).trans b3
          by_cases hjl' : j' < x.l.length
          · obtain ⟨y, hy⟩ : ∃ y, x.l[j']? = some y := ⟨_, List.getElem?_eq_getElem hjl'⟩
            obtain ⟨g3, o3, rfl, _, ⟨cu3, hcu3⟩, e0, e1, e2⟩ := HI.out.2.2.1.2.2 j' y hy
            obtain ⟨g4, o4, rfl, _, ⟨cu4, hcu4⟩, f0, f1, f2⟩ := HI.out.2.2.2.2.2 j' y hy
            have hg3 := lt_of_heap hcu3
            have hg4 := lt_of_heap hcu4
            have hbz : Below w.heap.size w wr := HI.out.2.1.trans ((HX.out.trans (hb'.mono (by omega))).mono (by omega))
            have e0 := (hbz.cell (p := ⟨g3, _, none⟩) hg3).trans e0
            have e1 := (hbz.cell (p := ⟨g3, _, none⟩) hg3).trans e1
            have e2 := (hbz.cell (p := ⟨g3, _, none⟩) hg3).trans e2
            have f0 := (hbz.cell (p := ⟨g4, _, none⟩) hg4).trans f0
            have f1 := (hbz.cell (p := ⟨g4, _, none⟩) hg4).trans f1
            have f2 := (hbz.cell (p := ⟨g4, _, none⟩) hg4).trans f2
            have HQ := Lib.hid hb'
            clear hbz hb' hcu3 hcu4 hy
            generalize y.a = ya at *
            generalize y.s = ys at *
            generalize y.c = yc at *
            go_wp2_with fail
            go_quiet (fail)
            go_wp2
            go_roundw
            case rel => exact ⟨j' + 1, by omega, by go_num, below_drewN HQ.out _⟩
            case measure => simp [intOf]; omega
          · obtain rfl : j' = x.l.length := by omega
            go_wp2
            go_roundw
            case rel => exact ⟨j + 1, by omega, by go_num, HI.out.1.trans ((HX.out.trans (hb'.mono (by omega))).mono (by omega))⟩
            case measure => simp [intOf]; omega
    · obtain rfl : j = n := by omega
      go_wp2
      go_ret
      exact ⟨rfl, HW.out.trans (hb.mono (by omega))⟩
end Ne
end Go.Proofs.Ytllmddhahpegmaa
namespace Go.Proofs.Ytllmddhahpegmaa
namespace Ne

def Opn (M : Tr) (i : Nat) : Prop := ∃ q, M[i]? = some (some q)

/-- M' comes of M by what was done with the arena k and with those that it gave. -/
structure Since (M M' : Tr) (k : Nat) (n : Node) : Prop where
  good : Good M'
  here : ∃ e : List Item, M'[k]? = some (some { n with l := n.l ++ e }) ∧ ∀ x ∈ e, 0 ≤ x.c → ¬ Opn M x.c.toNat
  old : ∀ (i : Nat) (q : Node), i ≠ k → M[i]? = some (some q) → M'[i]? = some (some q)
  new : ∀ (i : Nat) (q : Node), M'[i]? = some (some q) → ¬ Opn M i → ∃ p : Nat, q.p = (p : Int) ∧ (p = k ∨ ¬ Opn M p)

section
variable {M : Tr} (h : Good M) {d : Nat → Nat} {D : Nat} (hr : Ranked M d D) {i : Nat} {n : Node} (hi : M[i]? = some (some n)) {l : List Item} (hl : l.Sublist n.l) {F : Nat} (hF : D - d i < F)
include h hr hi hl hF
theorem prune_open (j : Nat) (k : Node) : (trim (shut F M l))[j]? = some (some k) ↔ M[j]? = some (some k) ∧ ¬ Gone M l j := by
  obtain ⟨_, s1, s2⟩ := shut_good h hr hi hl hF
  rw [trim_open]
  by_cases hg : Gone M l j
  · constructor
    · intro e
      by_cases hj : j < M.length
      · rw [s1 j hg hj] at e; cases e
      · obtain ⟨x, hx, h0, hA⟩ := hg
        obtain ⟨k', hk', _⟩ := h.kid hi (hl.subset hx) h0
        rcases hA.inv with e1 | ⟨p, k2, h1, _⟩
        · rw [← e1] at hk'; exact absurd (List.getElem?_eq_some_iff.1 hk').1 hj
        · exact absurd (List.getElem?_eq_some_iff.1 h1).1 hj
    · exact fun e => absurd hg e.2
  · rw [s2 j hg]
    exact ⟨fun e => ⟨e, hg⟩, fun e => e.1⟩
end

section
variable {M M' : Tr} {k : Nat} {n : Node} (h : Good M) (hi : M[k]? = some (some n))
include h hi
theorem Since.start : Since M M k n := ⟨h, ⟨[], by simpa using hi, by simp⟩, fun _ _ _ e => e, fun i q hq hn => absurd ⟨q, hq⟩ hn⟩

variable (S : Since M M' k n)
include S
theorem Since.kid {j : Nat} {q : Node} (hq : M'[j]? = some (some q)) (hn : ¬ Opn M j) {x : Item} (hx : x ∈ q.l) (h0 : 0 ≤ x.c) : ¬ Opn M x.c.toNat := by
  obtain ⟨kk, hk, hp, _⟩ := S.good.kid hq hx h0
  rintro ⟨z, hz⟩
  have hzp : z.p = (j : Int) := by
    by_cases e : x.c.toNat = k
    · obtain ⟨e', he, _⟩ := S.here
      rw [e, he] at hk
      rw [e, hi] at hz
      injection hk with hk; injection hk with hk
      injection hz with hz; injection hz with hz
      subst hk hz
      exact hp
    · have := S.old _ z e hz
      rw [this] at hk
      injection hk with hk; injection hk with hk
      subst hk
      exact hp
  obtain ⟨_, q', hq', _⟩ := h.parent hz hzp
  exact hn ⟨q', hq'⟩

theorem Since.under {c a : Nat} (hA : Anc M' c a) : ¬ Opn M a → ¬ Opn M c := by
  induction hA with
  | refl c => exact id
  | step c p a kk h1 hp _ ih =>
    intro hn
    obtain ⟨_, q, hq, x, hx, hxc⟩ := S.good.parent h1 hp
    have := S.kid h hi hq (ih hn) hx (by omega)
    rwa [hxc, Int.toNat_natCast] at this

theorem Since.gone {l : List Item} (hfr : ∀ x ∈ l, 0 ≤ x.c → ¬ Opn M x.c.toNat) {c : Nat} (hg : Gone M' l c) : ¬ Opn M c := by
  obtain ⟨x, hx, h0, hA⟩ := hg
  exact S.under h hi hA (hfr x hx h0)

theorem Since.prune {d : Nat → Nat} {D : Nat} (hr : Ranked M' d D) {j : Nat} {q : Node} (hj : M'[j]? = some (some q)) {l l' : List Item} (hl : l.Sublist q.l) {F : Nat} (hF : D - d j < F) (hp : Pruned q l l')
    (hfr : ∀ x ∈ l, 0 ≤ x.c → ¬ Opn M x.c.toNat) (hjk : j = k ∨ ¬ Opn M j) (hkeep : j = k → ∃ e : List Item, l' = n.l ++ e ∧ ∀ x ∈ e, 0 ≤ x.c → ¬ Opn M x.c.toNat) :
    Since M ((trim (shut F M' l)).set j (some { q with l := l' })) k n := by
  have hO := prune_open S.good hr hj hl hF
  have hgj := not_gone S.good hr hj hl
  have hjl : j < (trim (shut F M' l)).length := (List.getElem?_eq_some_iff.1 ((hO j q).2 ⟨hj, hgj⟩)).1
  obtain ⟨e0, he0, hf0⟩ := S.here
  refine ⟨prune_good S.good hr hj hl hF hp, ?_, ?_, ?_⟩
  · by_cases e : j = k
    · obtain ⟨e1, he1, hf1⟩ := hkeep e
      subst e
      rw [he0] at hj
      injection hj with hj; injection hj with hj
      subst hj
      exact ⟨e1, by rw [List.getElem?_set_self hjl, he1], hf1⟩
    · exact ⟨e0, by rw [List.getElem?_set_ne e]; exact (hO _ _).2 ⟨he0, fun hg => S.gone h hi hfr hg ⟨n, hi⟩⟩, hf0⟩
  · intro i0 q0 hik hq0
    have hne : j ≠ i0 := fun e => by
      subst e
      rcases hjk with hjk | hjk
      · exact hik hjk
      · exact hjk ⟨q0, hq0⟩
    rw [List.getElem?_set_ne hne]
    exact (hO _ _).2 ⟨S.old i0 q0 hik hq0, fun hg => S.gone h hi hfr hg ⟨q0, hq0⟩⟩
  · intro i0 q0 hq0 hn
    by_cases e : j = i0
    · subst e
      rw [List.getElem?_set_self hjl] at hq0
      injection hq0 with hq0; injection hq0 with hq0
      subst hq0
      exact S.new j q hj hn
    · rw [List.getElem?_set_ne e] at hq0
      exact S.new i0 q0 ((hO _ _).1 hq0).1 hn

theorem Since.rewind {F : Nat} (hF : Big M' F) (j m : Int) (hn : ¬ Opn M j.toNat) : Since M (rewindTo M' F j m).1 k n := by
  obtain ⟨d, D, hr, hD⟩ := hF
  unfold rewindTo
  cases hf : find M' j with
  | none => exact S
  | some q =>
    obtain ⟨h0, hj⟩ := find_some hf
    dsimp only
    split
    · exact S
    · exact S.prune h hi hr hj (List.drop_sublist _ _) (by omega) (rewind_pruned S.good hj _) (fun x hx h0 => S.kid h hi hj hn (List.mem_of_mem_drop hx) h0) (.inr hn) (fun e => absurd ⟨n, by rw [e]; exact hi⟩ hn)

omit S h hi in
theorem tidy_append {a b : List Item} (ha : ∀ x, a.getLast? = some x → x.c ≠ -2) : tidy (a ++ b) = a ++ tidy b := by
  unfold tidy
  rw [List.reverse_append, List.dropWhile_append]
  split
  · next he =>
    rw [List.isEmpty_iff] at he
    rw [he]
    cases hx : a.reverse with
    | nil => simp_all
    | cons x l =>
      have := ha x (by rw [List.getLast?_eq_head?_reverse, hx]; rfl)
      rw [List.dropWhile_cons_of_neg (by simpa using this), ← hx]
      simp
  · simp

theorem Since.stop {F : Nat} (hF : Big M' F) (j : Int) (hn : ¬ Opn M j.toNat) : Since M (stopAt M' F j).1 k n := by
  obtain ⟨d, D, hr, hD⟩ := hF
  unfold stopAt
  cases hf : find M' j with
  | none => exact S
  | some z =>
    obtain ⟨h0, hj⟩ := find_some hf
    dsimp only
    split
    · exact S
    · next hj0 =>
      obtain ⟨p, hp, hpk⟩ := S.new _ _ hj hn
      obtain ⟨_, q, x, hq, hx, hxc, _⟩ := stop_finds S.good hj (by omega)
      rw [show ((j.toNat : Nat) : Int) = j by omega] at hx hxc
      rw [hq]
      dsimp only
      rw [hx]
      dsimp only
      rw [hp, Int.toNat_natCast] at hq ⊢
      refine S.prune h hi hr hq (List.singleton_sublist.2 (List.mem_of_getElem? hx)) (by omega) (stop_pruned S.good hq _ x hx (by omega)) ?_ hpk ?_
      · intro y hy _
        rw [List.mem_singleton] at hy
        subst hy
        rwa [hxc]
      · intro e
        obtain ⟨e0, he0, hf0⟩ := S.here
        subst e
        rw [he0] at hq
        injection hq with hq; injection hq with hq
        subst hq
        have hge : n.l.length ≤ placeOf { n with l := n.l ++ e0 } j := by
          refine Nat.le_of_not_lt fun hlt => ?_
          rw [List.getElem?_append_left hlt] at hx
          obtain ⟨kk, hk, _⟩ := h.kid hi (List.mem_of_getElem? hx) (by omega)
          rw [hxc] at hk
          exact hn ⟨kk, hk⟩
        refine ⟨tidy (e0.set (placeOf { n with l := n.l ++ e0 } j - n.l.length) (asHole x)), ?_, ?_⟩
        · rw [List.set_append_right _ _ hge, tidy_append (h.node _ _ hi).last]
        · intro y hy h0
          have hy := (tidy_sub _).subset hy
          rcases List.mem_or_eq_of_mem_set hy with hy | hy
          · exact hf0 y hy h0
          · rw [hy] at h0
            exact absurd h0 (by simp [asHole])

omit h hi in
/-- One item more. -/
theorem Since.add {j : Nat} {q : Node} (hj : M'[j]? = some (some q)) (hjk : j = k ∨ ¬ Opn M j) {x : Item} (hx : 0 ≤ x.c → ¬ Opn M x.c.toNat) {T : Tr} (hT : Good T)
    (hTj : T[j]? = some (some { q with l := q.l ++ [x] })) (hTo : ∀ (i : Nat) (z : Node), i ≠ j → M'[i]? = some (some z) → T[i]? = some (some z))
    (hTn : ∀ (i : Nat) (z : Node), i ≠ j → T[i]? = some (some z) → ¬ Opn M i → M'[i]? = some (some z) ∨ z.p = (j : Int)) : Since M T k n := by
  obtain ⟨e0, he0, hf0⟩ := S.here
  refine ⟨hT, ?_, ?_, ?_⟩
  · by_cases e : k = j
    · subst e
      rw [he0] at hj
      injection hj with hj; injection hj with hj
      subst hj
      refine ⟨e0 ++ [x], by rw [hTj]; simp, ?_⟩
      intro y hy h0
      rcases List.mem_append.1 hy with hy | hy
      · exact hf0 y hy h0
      · rw [List.mem_singleton] at hy
        subst hy
        exact hx h0
    · exact ⟨e0, hTo k _ e he0, hf0⟩
  · intro i0 q0 hik hq0
    refine hTo i0 q0 (fun e => ?_) (S.old i0 q0 hik hq0)
    subst e
    rcases hjk with e | e
    · exact hik e
    · exact e ⟨q0, hq0⟩
  · intro i0 q0 hq0 hn
    by_cases e : i0 = j
    · subst e
      rw [hTj] at hq0
      injection hq0 with hq0; injection hq0 with hq0
      subst hq0
      exact S.new i0 q hj hn
    · rcases hTn i0 q0 e hq0 hn with e1 | e1
      · exact S.new i0 q0 e1 hn
      · exact ⟨j, e1, hjk⟩

omit h hi in
theorem Since.alloc (j sz al : Int) (hjk : j.toNat = k ∨ ¬ Opn M j.toNat) : Since M (alloc M' j sz al).1 k n := by
  have hg := alloc_keeps S.good j sz al
  unfold Ne.alloc at hg ⊢
  split
  · next hG =>
    rw [if_pos hG] at hg
    obtain ⟨q, _, h0, hj, _⟩ := give_gives S.good hG
    have e : addItem M' j.toNat ⟨(give M' j sz al).1, sz, -1⟩ = M'.set j.toNat (some { q with l := q.l ++ [⟨(give M' j sz al).1, sz, -1⟩] }) := by simp [addItem, hj]
    dsimp only at hg ⊢
    rw [e] at hg ⊢
    have hl := (List.getElem?_eq_some_iff.1 hj).1
    refine S.add hj hjk (x := ⟨(give M' j sz al).1, sz, -1⟩) (fun e => absurd (show (0:Int) ≤ -1 from e) (by decide)) hg (List.getElem?_set_self hl) ?_ ?_
    · intro i0 z hne hz
      rw [List.getElem?_set_ne (Ne.symm hne)]; exact hz
    · intro i0 z hne hz _
      rw [List.getElem?_set_ne (Ne.symm hne)] at hz; exact .inl hz
  · exact S

omit h hi in
theorem Since.begin_ (j sz al : Int) (hjk : j.toNat = k ∨ ¬ Opn M j.toNat) : Since M (begin_ M' j sz al).1 k n ∧ ((begin_ M' j sz al).2.2 = 0 → 0 ≤ (begin_ M' j sz al).2.1 ∧ (begin_ M' j sz al).2.1 < 64 ∧ ¬ Opn M (begin_ M' j sz al).2.1.toNat) := by
  have hg := begin_keeps S.good j sz al
  unfold Ne.begin_ at hg ⊢
  split
  · next hG =>
    rw [if_pos hG] at hg
    split
    · next hH => exact ⟨S, fun e => absurd (show (5:Int) = 0 from e) (by decide)⟩
    · next hH =>
      rw [if_neg hH] at hg
      obtain ⟨q, _, h0, hj, _⟩ := give_gives S.good hG
      have hl := (List.getElem?_eq_some_iff.1 hj).1
      have hhole : ¬ Opn M (hole M') := by
        rintro ⟨z, hz⟩
        by_cases e : hole M' = k
        · obtain ⟨e0, he0, _⟩ := S.here
          rw [← e] at he0
          exact hole_at he0
        · exact hole_at (S.old _ z e hz)
      have hne : hole M' ≠ j.toNat := fun e => hole_at (e ▸ hj)
      have hle := hole_le M'
      have hlen := S.good.len
      have hR : ∀ (i0 : Nat) (z : Node), (room M' (hole M'))[i0]? = some (some z) ↔ M'[i0]? = some (some z) := by
        intro i0 z
        unfold room
        split
        · rfl
        · by_cases hi0 : i0 < M'.length
          · rw [List.getElem?_append_left hi0]
          · rw [List.getElem?_append_right (by omega), List.getElem?_eq_none (by omega : M'.length ≤ i0)]
            cases e : i0 - M'.length with
            | zero => simp
            | succ m => simp
      have hRl : hole M' < (room M' (hole M')).length := by
        unfold room
        split
        · assumption
        · simp; omega
      have hRj := (hR j.toNat q).2 hj
      have hRjl := (List.getElem?_eq_some_iff.1 hRj).1
      have e : addItem (room M' (hole M')) j.toNat ⟨(give M' j sz al).1, sz, hole M'⟩ = (room M' (hole M')).set j.toNat (some { q with l := q.l ++ [⟨(give M' j sz al).1, sz, hole M'⟩] }) := by simp [addItem, hRj]
      dsimp only at hg ⊢
      rw [e] at hg ⊢
      refine ⟨S.add hj hjk (x := ⟨(give M' j sz al).1, sz, hole M'⟩) (fun _ => by simpa using hhole) hg ?_ ?_ ?_, fun _ => ⟨by omega, by omega, by simpa using hhole⟩⟩
      · rw [List.getElem?_set_ne hne, List.getElem?_set_self hRjl]
      · intro i0 z hn0 hz
        rw [List.getElem?_set_ne (fun e => hole_at (e ▸ hz)), List.getElem?_set_ne (Ne.symm hn0)]
        exact (hR i0 z).2 hz
      · intro i0 z hn0 hz _
        by_cases e : hole M' = i0
        · subst e
          rw [List.getElem?_set_self (by rw [List.length_set]; exact hRl)] at hz
          injection hz with hz; injection hz with hz
          subst hz
          exact .inr (by show j = _; omega)
        · rw [List.getElem?_set_ne e, List.getElem?_set_ne (Ne.symm hn0)] at hz
          exact .inl ((hR i0 z).1 hz)
  · next hG => exact ⟨S, fun e => absurd e hG⟩

omit h hi S in
theorem tr_ext {A B : Tr} (hab : ∀ (i : Nat) (q : Node), A[i]? = some (some q) ↔ B[i]? = some (some q)) (ha : A.getLast? ≠ some none) (hb : B.getLast? ≠ some none) : A = B := by
  have key : ∀ A B : Tr, (∀ (i : Nat) (q : Node), A[i]? = some (some q) ↔ B[i]? = some (some q)) → B.getLast? ≠ some none → B.length ≤ A.length := by
    intro A B hab hb
    refine Nat.le_of_not_lt fun hlt => ?_
    rw [List.getLast?_eq_getElem?] at hb
    have hl : B.length - 1 < B.length := by omega
    rw [List.getElem?_eq_getElem hl] at hb
    cases e : B[B.length - 1] with
    | none => rw [e] at hb; exact hb rfl
    | some q =>
      have := (hab (B.length - 1) q).2 (by rw [List.getElem?_eq_getElem hl, e])
      have := (List.getElem?_eq_some_iff.1 this).1
      omega
  have hlen : A.length = B.length := Nat.le_antisymm (key B A (fun i q => (hab i q).symm) ha) (key A B hab hb)
  refine List.ext_getElem? fun i => ?_
  rcases Nat.lt_or_ge i A.length with hi | hi
  · have hi' : i < B.length := by omega
    have e1 := List.getElem?_eq_getElem hi
    have e2 := List.getElem?_eq_getElem hi'
    cases ea : A[i] with
    | some q => rw [ea] at e1; rw [e1, (hab i q).1 e1]
    | none =>
      cases eb : B[i] with
      | none => rw [e1, e2, ea, eb]
      | some q =>
        rw [eb] at e2
        have := (hab i q).2 e2
        rw [e1, ea] at this
        cases this
  · rw [List.getElem?_eq_none hi, List.getElem?_eq_none (by omega)]

/-- Rewind leaves the state as it was. -/
theorem Since.back {F : Nat} (hF : Big M' F) : rewindTo M' F k n.l.length = (M, 0) := by
  obtain ⟨d, D, hr, hD⟩ := hF
  obtain ⟨e0, he0, hf0⟩ := S.here
  have hfind : find M' (k : Int) = some { n with l := n.l ++ e0 } := by
    unfold find
    rw [if_neg (by omega), Int.toNat_natCast, he0]; rfl
  have hgood := rewind_good S.good (F := F) ⟨d, D, hr, hD⟩ (k : Int) (n.l.length : Int)
  unfold rewindTo at hgood ⊢
  rw [hfind] at hgood ⊢
  dsimp only at hgood ⊢
  rw [if_neg (by simp; omega)] at hgood ⊢
  simp only [Int.toNat_natCast, List.drop_left, List.take_left] at hgood ⊢
  have htid : tidy n.l = n.l := by
    have := tidy_append (b := []) (h.node _ _ hi).last
    simpa [tidy] using this
  rw [htid] at hgood ⊢
  have hO := prune_open S.good hr he0 (List.sublist_append_right n.l e0) (F := F) (by omega)
  refine Prod.ext (tr_ext ?_ hgood.last h.last) rfl
  intro i0 q0
  have hkk : k < (trim (shut F M' e0)).length := (List.getElem?_eq_some_iff.1 ((hO k _).2 ⟨he0, not_gone S.good hr he0 (List.sublist_append_right n.l e0)⟩)).1
  by_cases e : k = i0
  · subst e
    dsimp only
    rw [List.getElem?_set_self hkk, hi]
  · dsimp only
    rw [List.getElem?_set_ne e, hO]
    constructor
    · rintro ⟨hq, hg⟩
      by_cases ho : Opn M i0
      · obtain ⟨z, hz⟩ := ho
        rw [S.old i0 z (Ne.symm e) hz] at hq
        rw [hz, hq]
      · refine absurd ?_ hg
        have up : ∀ m : Nat, ∀ (c : Nat) (z : Node), d c ≤ m → M'[c]? = some (some z) → ¬ Opn M c → Gone M' e0 c := by
          intro m
          induction m with
          | zero =>
            intro c z hd hz hn
            obtain ⟨p, hp, _⟩ := S.new c z hz hn
            have := S.good.parent_rank hr hz hp
            omega
          | succ m ih =>
            intro c z hd hz hn
            obtain ⟨p, hp, hpk⟩ := S.new c z hz hn
            have hrk := S.good.parent_rank hr hz hp
            obtain ⟨_, q, hq, x, hx, hxc⟩ := S.good.parent hz hp
            by_cases hpk' : p = k
            · subst hpk'
              rw [he0] at hq
              injection hq with hq; injection hq with hq
              subst hq
              rcases List.mem_append.1 hx with hx | hx
              · obtain ⟨kk, hk, _⟩ := h.kid hi hx (by omega)
                rw [hxc, Int.toNat_natCast] at hk
                exact absurd ⟨kk, hk⟩ hn
              · exact ⟨x, hx, by omega, by rw [hxc, Int.toNat_natCast]; exact .refl c⟩
            · obtain ⟨y, hy, hy0, hA⟩ := ih p q (by omega) hq (by rcases hpk with e | e; exact absurd e hpk'; exact e)
              exact ⟨y, hy, hy0, .step c p _ z hz hp hA⟩
        exact up (d i0) i0 q0 (Nat.le_refl _) hq ho
    · intro hq
      exact ⟨S.old i0 q0 (Ne.symm e) hq, fun hg => S.gone h hi hf0 hg ⟨q0, hq⟩⟩
end
end Ne
end Go.Proofs.Ytllmddhahpegmaa
namespace Go.Proofs.Ytllmddhahpegmaa
open Go.RowKit
namespace Ne

theorem Held.grown {w0 w w' : World} {own : Nat → Option Nat} {t : Nat} {M : Tr} (h : Held w0 w own t M) {r : Option Nat} (hg : w.grownBy w' r) (hr : ∀ k, r = some k → own k = none ∧ w0.heap.size ≤ k) : Held w0 w' own t M := by
  obtain ⟨g, cap, cs, hT⟩ := h.tree
  refine ⟨⟨g, cap, cs, hT.same fun k hk hs => ⟨hg.block k hs fun e => hk (hr k e.symm).1, rfl⟩⟩, h.good, fun k hk => Nat.lt_of_lt_of_le (h.fresh k hk) hg.size, h.low, ?_⟩
  exact ⟨hg.os.trans h.below.os, hg.tape.trans h.below.tape, hg.output.trans h.below.output, Nat.le_trans h.below.size hg.size,
    fun k hk => (hg.block k (Nat.lt_of_lt_of_le hk h.below.size) fun e => by have := (hr k e.symm).2; omega).trans (h.below.block k hk)⟩

/-- The row of the arenas begun since. -/
structure FrRow (B0 : Nat) (own : Nat → Option Nat) (w : World) (v : Value) (fr : List Int) : Prop where
  row : w.ownsRow 0 3 1 v fr.length (fr.map fun f => .int .i64 f)
  out : ∀ g, v.ownBlock = some g → B0 ≤ g ∧ own g = none

theorem FrRow.nil (B0 : Nat) (own : Nat → Option Nat) (w : World) : FrRow B0 own w (.slice none 0 0) [] :=
  ⟨World.ownsRow_nil _ _ _ _, fun g hg => by cases hg⟩

theorem FrRow.keeps {B0 : Nat} {own own' : Nat → Option Nat} {w w' : World} {v : Value} {fr : List Int} (h : FrRow B0 own w v fr) (hk : Keeps own own' w w') : FrRow B0 own' w' v fr :=
  ⟨row_same h.row fun g hg => hk.block g (h.row.lt g hg).2 (h.out g hg).2, fun g hg => ⟨(h.out g hg).1, (hk.same g (h.row.lt g hg).2).trans (h.out g hg).2⟩⟩

/-- What lay there when the state was saved, and is no tree's, still does. -/
def Old (B0 : Nat) (own4 : Nat → Option Nat) (W6 : World) (own : Nat → Option Nat) (w : World) : Prop :=
  B0 ≤ w.heap.size ∧ ∀ k, k < B0 → own4 k = none → w.heap[k]? = W6.heap[k]? ∧ own k = none

theorem Old.keeps {B0 : Nat} {own4 own own' : Nat → Option Nat} {W6 w w' : World} (h : Old B0 own4 W6 own w) (hk : Keeps own own' w w') : Old B0 own4 W6 own' w' :=
  ⟨Nat.le_trans h.1 hk.size, fun k h1 h2 => ⟨(hk.block k (Nat.lt_of_lt_of_le h1 h.1) (h.2 k h1 h2).2).trans (h.2 k h1 h2).1, (hk.same k (Nat.lt_of_lt_of_le h1 h.1)).trans (h.2 k h1 h2).2⟩⟩

theorem Old.grown {B0 : Nat} {own4 own : Nat → Option Nat} {W6 w w' : World} (h : Old B0 own4 W6 own w) {r : Option Nat} (hg : w.grownBy w' r) (hr : ∀ k, r = some k → B0 ≤ k) : Old B0 own4 W6 own w' :=
  ⟨Nat.le_trans h.1 hg.size, fun k h1 h2 => ⟨(hg.block k (Nat.lt_of_lt_of_le h1 h.1) fun e => by have := hr k e.symm; omega).trans (h.2 k h1 h2).1, (h.2 k h1 h2).2⟩⟩

theorem FrRow.app {B0 : Nat} {own own4 : Nat → Option Nat} {W6 w w' : World} {v : Value} {fr : List Int} (h : FrRow B0 own w v fr) (ho : Old B0 own4 W6 own w) (hf : Fresh own w) {g cap : Nat} {x : Int}
    (h1 : w'.ownsRow 0 3 1 (.slice (some ⟨g, 0, none⟩) (fr.length + 1) cap) (fr.length + 1) ((fr.map fun f => .int .i64 f) ++ [.int .i64 x])) (h3 : v.ownBlock = some g ∨ g = w.heap.size) :
    FrRow B0 own w' (.slice (some ⟨g, 0, none⟩) (fr.length + 1) cap) (fr ++ [x]) := by
  refine ⟨by simpa using h1, fun g' hg' => ?_⟩
  obtain rfl : g = g' := by simpa [Value.ownBlock] using hg'
  rcases h3 with e | e
  · exact h.out g e
  · refine ⟨by rw [e]; exact ho.1, ?_⟩
    cases hv : own g with
    | none => rfl
    | some z => exact absurd (hf g (by rw [hv]; simp)) (by omega)
theorem begun {w0 w9 w' W6 : World} {own4 own : Nat → Option Nat} {t B0 : Nat} {M : Tr} {v : Value} {fs : List Int} {ob : Obj} {g cap : Nat} {x : Int} (H : Held w0 w9 own t M) (hO : Old B0 own4 W6 own w9) (hF : FrRow B0 own w9 v fs) (hB : w0.heap.size ≤ B0)
    (hg : (w9.alloc ob).grownBy w' v.ownBlock) (h1 : w'.ownsRow 0 3 1 (.slice (some ⟨g, 0, none⟩) (fs.length + 1) cap) (fs.length + 1) ((fs.map fun f => .int .i64 f) ++ [.int .i64 x])) (h3 : v.ownBlock = some g ∨ g = w9.heap.size + 1) :
    Held w0 w' own t M ∧ Old B0 own4 W6 own w' ∧ FrRow B0 own w' (.slice (some ⟨g, 0, none⟩) (fs.length + 1) cap) (fs ++ [x]) := by
  have hb : Below w9.heap.size w9 (w9.alloc ob) := (Below.refl _ _).alloc (Nat.le_refl _) ob
  have hA : Keeps own own w9 (w9.alloc ob) := .of_below own hb
  have H' := H.of_below hb
  exact ⟨H'.grown hg fun g' hg' => ⟨(hF.out g' hg').2, Nat.le_trans hB (hF.out g' hg').1⟩, (hO.keeps hA).grown hg fun g' hg' => (hF.out g' hg').1,
    (hF.keeps hA).app (hO.keeps hA) H'.fresh h1 (by simpa using h3)⟩
end Ne
end Go.Proofs.Ytllmddhahpegmaa
