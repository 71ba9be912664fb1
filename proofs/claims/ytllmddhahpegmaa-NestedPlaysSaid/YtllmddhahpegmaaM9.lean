/- The walk of made. The plain laws on trees: what Room, Live and Alloc say of one another. The walk of NestedRoom. -/
import Derived.Test.YtllmddhahpegmaaM8
namespace Go.Proofs.Ytllmddhahpegmaa
open Go.RowKit
namespace Ne

/-- A call, as the statements draw it. -/
structure Cl where
  what : Int
  node : Int
  items : Int
  size : Int
  align : Int

def CallsAt (w : World) (A : Option Addr) (c : Nat) (l : List Cl) : Prop :=
  l.length ≤ c ∧ c ≤ maxLen ∧ ∀ (j : Nat) (x : Cl), l[j]? = some x → ∃ g o, A = some ⟨g, o, none⟩ ∧ g < w.heap.size ∧ 0 ≤ x.what ∧ x.what ≤ 255 ∧
    w.cell? ⟨g, o + j * 5, none⟩ = some (.int .u8 x.what) ∧ w.cell? ⟨g, o + j * 5 + 1, none⟩ = some (.int .i64 x.node) ∧ w.cell? ⟨g, o + j * 5 + 2, none⟩ = some (.int .i64 x.items) ∧
    w.cell? ⟨g, o + j * 5 + 3, none⟩ = some (.int .i64 x.size) ∧ w.cell? ⟨g, o + j * 5 + 4, none⟩ = some (.int .i64 x.align)

theorem CallsAt.below {w w' : World} {A : Option Addr} {c : Nat} {l : List Cl} (h : CallsAt w A c l) (hb : Below w.heap.size w w') : CallsAt w' A c l := by
  refine ⟨h.1, h.2.1, fun j x hx => ?_⟩
  obtain ⟨g, o, hA, hg, w0, w1, k0, k1, k2, k3, k4⟩ := h.2.2 j x hx
  exact ⟨g, o, hA, Nat.lt_of_lt_of_le hg hb.size, w0, w1, (hb.cell (p := ⟨g, _, none⟩) hg).trans k0, (hb.cell (p := ⟨g, _, none⟩) hg).trans k1, (hb.cell (p := ⟨g, _, none⟩) hg).trans k2, (hb.cell (p := ⟨g, _, none⟩) hg).trans k3, (hb.cell (p := ⟨g, _, none⟩) hg).trans k4⟩

section
variable {w0 w : World} {own : Nat → Option Nat} {t : Nat} {M : Tr} {z : Int} (H : Held w0 w own t M) (hz : RootS M z)
include H hz
theorem go_alloc (i sz al : Int) : Calls Try.prog 16 #[.pointer (some ⟨t, 0, none⟩), .int .i64 i, .int .i64 sz, .int .i64 al] w fun e w' => ∃ v own' M', e = .returned v ∧ Held w0 w' own' t M' ∧ RootS M' z :=
  (step_alloc H i sz al rfl).mono fun _ _ ⟨own', he, h⟩ => ⟨_, own', _, he, h, hz.alloc i sz al⟩
theorem go_begin (i sz al : Int) : Calls Try.prog 22 #[.pointer (some ⟨t, 0, none⟩), .int .i64 i, .int .i64 sz, .int .i64 al] w fun e w' => ∃ v own' M', e = .returned v ∧ Held w0 w' own' t M' ∧ RootS M' z :=
  (step_begin H i sz al rfl).mono fun _ _ ⟨own', he, h⟩ => ⟨_, own', _, he, h, hz.begin_ i sz al⟩
theorem go_rewind (i m : Int) : Calls Try.prog 20 #[.pointer (some ⟨t, 0, none⟩), .int .i64 i, .int .i64 m] w fun e w' => ∃ v own' M', e = .returned v ∧ Held w0 w' own' t M' ∧ RootS M' z := by
  obtain ⟨F, hF⟩ := H.good.big
  exact (step_rewind H i m hF rfl).mono fun _ _ ⟨own', he, h⟩ => ⟨_, own', _, he, h, hz.rewind H.good hF i m⟩
theorem go_stop (i : Int) : Calls Try.prog 18 #[.pointer (some ⟨t, 0, none⟩), .int .i64 i] w fun e w' => ∃ v own' M', e = .returned v ∧ Held w0 w' own' t M' ∧ RootS M' z := by
  obtain ⟨F, hF⟩ := H.good.big
  exact (step_stop H i hF rfl).mono fun _ _ ⟨own', he, h⟩ => ⟨_, own', _, he, h, hz.stop H.good hF i⟩
end

/-- What made returns. -/
def Made (w : World) (size : Int) (L : Nat) (e : Ending) (w' : World) : Prop :=
  (e = .returned (.pointer none) ∧ Below w.heap.size w w') ∨ (L ≤ 60 ∧ 1 ≤ size ∧ size ≤ 65536 ∧ ∃ t own M, e = .returned (.pointer (some ⟨t, 0, none⟩)) ∧ Held w w' own t M ∧ RootS M size)

set_option maxRecDepth 100000 in
set_option maxHeartbeats 1000000 in
theorem made_calls (w : World) (size : Int) (A : Option Addr) (c : Nat) (l : List Cl) (h : CallsAt w A c l) :
    Calls Try.prog 9 #[.int .i64 size, .slice A l.length c] w (Made w size l.length) := by
  obtain ⟨hlc, hcm, hcell⟩ := h
  unfold maxLen at hcm
  have HC := Lib.hid hcell
  clear hcell
  by_cases h60 : 60 < l.length
  · have HM : ∀ e w', e = .returned (.pointer none) → w' = w → Made w size l.length e w' := fun e w' h1 h2 => .inl ⟨h1, by rw [h2]; exact Below.refl _ _⟩
    have HM := Lib.hid HM
    generalize l.length = L at *
    go_enter Try.func9, Try.ntmps9
    go_wp2
    go_ret
    exact HM.out _ _ rfl rfl
  · by_cases hs : size < 1 ∨ 65536 < size
    · have HM : ∀ e w', e = .returned (.pointer none) → w' = w → Made w size l.length e w' := fun e w' h1 h2 => .inl ⟨h1, by rw [h2]; exact Below.refl _ _⟩
      have HM := Lib.hid HM
      generalize l.length = L at *
      go_enter Try.func9, Try.ntmps9
      go_wp2_with (go_at_call 25; refine (new_bad size _ hs).mono ?_; rintro e w' ⟨rfl, rfl⟩)
      go_ret
      exact HM.out _ _ rfl rfl
    · obtain ⟨P, hP⟩ : ∃ P, P = Made w size l.length := ⟨_, rfl⟩
      rw [← hP]
      have HP := Lib.hid hP
      clear hP
      generalize hL : l.length = L at *
      have HL := Lib.hid hL
      clear hL
      go_enter Try.func9, Try.ntmps9
      go_wp2_with (go_at_call 25; fail)
      refine (new_held size w (by omega) (by omega)).mono ?_
      rintro e w1 ⟨own1, t, rfl, H1⟩
      go_wp2_with fail
      go_loopw [7, 8] (fun i x wr => ∃ (j : Nat) (own : Nat → Option Nat) (M : Tr), j ≤ L ∧ i = .int .i64 j ∧ Held w wr own t M ∧ RootS M size) (fun i _ _ => L - (intOf i).toNat)
      case atStart => exact ⟨0, own1, newTr size, Nat.zero_le _, rfl, H1, _, rfl, rfl⟩
      case round =>
        obtain ⟨j, own, M, hj, rfl, H, hz⟩ := hrel
        by_cases hjl : j < L
        · obtain ⟨x, hx⟩ : ∃ x, l[j]? = some x := ⟨_, List.getElem?_eq_getElem (by rw [HL.out]; exact hjl)⟩
          obtain ⟨g, o, rfl, hg, y0, y1, k0, k1, k2, k3, k4⟩ := HC.out j x hx
          have k0 := (H.below.cell (p := ⟨g, _, none⟩) hg).trans k0
          have k1 := (H.below.cell (p := ⟨g, _, none⟩) hg).trans k1
          have k2 := (H.below.cell (p := ⟨g, _, none⟩) hg).trans k2
          have k3 := (H.below.cell (p := ⟨g, _, none⟩) hg).trans k3
          have k4 := (H.below.cell (p := ⟨g, _, none⟩) hg).trans k4
          have H2 : ∀ o, Held w (wr.alloc o) own t M := fun o => H.of_below ((Below.refl _ _).alloc (Nat.le_refl _) _)
          have HA := fun o => Lib.hid (go_alloc (H2 o) hz x.node x.size x.align)
          have HB := fun o => Lib.hid (go_begin (H2 o) hz x.node x.size x.align)
          have HR := fun o => Lib.hid (go_rewind (H2 o) hz x.node x.items)
          have HS := fun o => Lib.hid (go_stop (H2 o) hz x.node)
          clear H H2 hx hz
          have hcase : x.what % 8 = 3 ∨ x.what % 8 = 4 ∨ x.what % 8 = 5 ∨ (x.what % 8 ≠ 3 ∧ x.what % 8 ≠ 4 ∧ x.what % 8 ≠ 5) := by omega
          rcases hcase with hc | hc | hc | ⟨hc1, hc2, hc3⟩
          · have b3 : (x.what % 8 == 3) = true := by rw [beq_iff_eq]; exact hc
            clear hc
            go_wp2_with (first | (go_at_call 22; refine (HB _).out.mono ?_; rintro e w2 ⟨v, own2, M2, rfl, H2, hz2⟩))
            go_roundw
            case rel => exact ⟨j + 1, own2, M2, by omega, by go_num, H2, hz2⟩
            case measure => simp [intOf]; omega
          · have b3 : (x.what % 8 == 3) = false := by rw [beq_eq_false_iff_ne]; omega
            have b4 : (x.what % 8 == 4) = true := by rw [beq_iff_eq]; exact hc
            clear hc
            go_wp2_with (first | (go_at_call 20; refine (HR _).out.mono ?_; rintro e w2 ⟨v, own2, M2, rfl, H2, hz2⟩))
            go_roundw
            case rel => exact ⟨j + 1, own2, M2, by omega, by go_num, H2, hz2⟩
            case measure => simp [intOf]; omega
          · have b3 : (x.what % 8 == 3) = false := by rw [beq_eq_false_iff_ne]; omega
            have b4 : (x.what % 8 == 4) = false := by rw [beq_eq_false_iff_ne]; omega
            have b5 : (x.what % 8 == 5) = true := by rw [beq_iff_eq]; exact hc
            clear hc
            go_wp2_with (first | (go_at_call 18; refine (HS _).out.mono ?_; rintro e w2 ⟨v, own2, M2, rfl, H2, hz2⟩))
            go_roundw
            case rel => exact ⟨j + 1, own2, M2, by omega, by go_num, H2, hz2⟩
            case measure => simp [intOf]; omega
          · have b3 : (x.what % 8 == 3) = false := by rw [beq_eq_false_iff_ne]; omega
            have b4 : (x.what % 8 == 4) = false := by rw [beq_eq_false_iff_ne]; omega
            have b5 : (x.what % 8 == 5) = false := by rw [beq_eq_false_iff_ne]; omega
            clear hc1 hc2 hc3
            go_wp2_with (first | (go_at_call 16; refine (HA _).out.mono ?_; rintro e w2 ⟨v, own2, M2, rfl, H2, hz2⟩))
            go_roundw
            case rel => exact ⟨j + 1, own2, M2, by omega, by go_num, H2, hz2⟩
            case measure => simp [intOf]; omega
        · obtain rfl : j = L := by omega
          have HF := Lib.hid (And.intro H hz)
          clear H hz
          go_wp2
          rw [HP.out]
          exact .inr ⟨by omega, by omega, by omega, t, own, M, rfl, HF.out.1, HF.out.2⟩
end Ne
end Go.Proofs.Ytllmddhahpegmaa
namespace Go.Proofs.Ytllmddhahpegmaa
namespace Ne

theorem up_one (x : Int) : up x 1 = x := by
  unfold up
  rw [show x + 1 - 1 = x by omega]
  simp

theorem badArg_one (sz : Int) (h1 : 1 ≤ sz) (h2 : sz ≤ 65536) : badArg sz 1 = false := by
  unfold badArg
  have e1 : decide (sz < 1) = false := decide_eq_false (by omega)
  have e2 : decide (sz > 65536) = false := decide_eq_false (by omega)
  rw [e1, e2]; rfl

/-- Alloc with the alignment 1. -/
theorem alloc_one {M : Tr} {i : Int} {n : Node} (hf : find M i = some n) (sz : Int) (h1 : 1 ≤ sz) (h2 : sz ≤ 65536) :
    ((n.a + n.s - n.fin < sz ∨ n.l.length = 200) → alloc M i sz 1 = (M, 0, 5)) ∧
    (¬ (n.a + n.s - n.fin < sz ∨ n.l.length = 200) → alloc M i sz 1 = (M.set i.toNat (some { n with l := n.l ++ [⟨n.fin, sz, -1⟩] }), n.fin, 0)) := by
  have hb := badArg_one sz h1 h2
  have hi := (find_some hf).2
  have hg : give M i sz 1 = if n.a + n.s < n.fin + sz ∨ n.l.length = 200 then (0, 5) else (n.fin, 0) := by
    unfold give
    rw [hf]
    simp only [hb, up_one]
    rfl
  constructor
  · intro h
    rw [if_pos (by omega)] at hg
    unfold alloc
    rw [hg]; rfl
  · intro h
    rw [if_neg (by omega)] at hg
    unfold alloc
    rw [hg]
    simp [addItem, hi]

theorem room_set {M : Tr} {i : Nat} {n : Node} (hi : M[i]? = some (some n)) (x : Item) : roomOf (M.set i (some { n with l := n.l ++ [x] })) i = (n.a + n.s - (x.a + x.s), 0) := by
  have hl := (List.getElem?_eq_some_iff.1 hi).1
  have : find (M.set i (some { n with l := n.l ++ [x] })) i = some { n with l := n.l ++ [x] } := by
    unfold find
    rw [if_neg (by omega), Int.toNat_natCast, List.getElem?_set_self hl]; rfl
  unfold roomOf
  rw [this]
  simp [Node.fin]
end Ne
end Go.Proofs.Ytllmddhahpegmaa
namespace Go.Proofs.Ytllmddhahpegmaa
open Go.RowKit
namespace Ne

section
variable {w0 w : World} {own : Nat → Option Nat} {t : Nat} {M M' : Tr} (H : Held w0 w own t M)
include H
theorem kp_alloc (i sz al : Int) {a b : Int} (he : alloc M i sz al = (M', a, b)) :
    Calls Try.prog 16 #[.pointer (some ⟨t, 0, none⟩), .int .i64 i, .int .i64 sz, .int .i64 al] w fun e w' => ∃ own', e = .returned (.tuple #[.int .i64 a, .int .i64 b]) ∧ Held w0 w' own' t M' ∧ Keeps own own' w w' := by
  refine (alloc_tree w own t M i sz al H.tree H.good).mono ?_
  rintro e w' ⟨rfl, own', hT, hK⟩
  have hg := alloc_keeps H.good i sz al
  rw [he] at hT hg ⊢
  exact ⟨own', rfl, H.step hT hg hK, hK⟩
theorem kp_begin (i sz al : Int) {a b : Int} (he : begin_ M i sz al = (M', a, b)) :
    Calls Try.prog 22 #[.pointer (some ⟨t, 0, none⟩), .int .i64 i, .int .i64 sz, .int .i64 al] w fun e w' => ∃ own', e = .returned (.tuple #[.int .i64 a, .int .i64 b]) ∧ Held w0 w' own' t M' ∧ Keeps own own' w w' := by
  refine (begin_tree w own t M i sz al H.tree H.good).mono ?_
  rintro e w' ⟨rfl, own', hT, hK⟩
  have hg := begin_keeps H.good i sz al
  rw [he] at hT hg ⊢
  exact ⟨own', rfl, H.step hT hg hK, hK⟩
theorem kp_rewind (i m : Int) {F : Nat} (hF : Big M F) {b : Int} (he : rewindTo M F i m = (M', b)) :
    Calls Try.prog 20 #[.pointer (some ⟨t, 0, none⟩), .int .i64 i, .int .i64 m] w fun e w' => ∃ own', e = .returned (.int .i64 b) ∧ Held w0 w' own' t M' ∧ Keeps own own' w w' := by
  refine (rewind_tree w own t M i m F H.tree H.good hF).mono ?_
  rintro e w' ⟨rfl, own', hT, hK⟩
  have hg := rewind_good H.good hF i m
  rw [he] at hT hg ⊢
  exact ⟨own', rfl, H.step hT hg hK, hK⟩
theorem kp_stop (i : Int) {F : Nat} (hF : Big M F) {b : Int} (he : stopAt M F i = (M', b)) :
    Calls Try.prog 18 #[.pointer (some ⟨t, 0, none⟩), .int .i64 i] w fun e w' => ∃ own', e = .returned (.int .i64 b) ∧ Held w0 w' own' t M' ∧ Keeps own own' w w' := by
  refine (stop_tree w own t M i F H.tree H.good hF).mono ?_
  rintro e w' ⟨rfl, own', hT, hK⟩
  have hg := stop_good H.good hF i
  rw [he] at hT hg ⊢
  exact ⟨own', rfl, H.step hT hg hK, hK⟩
theorem kp_mark (i : Int) {a b : Int} (he : mark M i = (a, b)) :
    Calls Try.prog 19 #[.pointer (some ⟨t, 0, none⟩), .int .i64 i] w fun e w' => ∃ own', e = .returned (.tuple #[.int .i64 a, .int .i64 b]) ∧ Held w0 w' own' t M ∧ Keeps own own' w w' := by
  refine (mark_tree' w own t M i H.tree H.good).mono ?_
  rintro e w' ⟨rfl, own', hT, hK⟩
  rw [he]
  exact ⟨own', rfl, H.step hT H.good hK, hK⟩
theorem kp_room (i : Int) {a b : Int} (he : roomOf M i = (a, b)) :
    Calls Try.prog 21 #[.pointer (some ⟨t, 0, none⟩), .int .i64 i] w fun e w' => ∃ own', e = .returned (.tuple #[.int .i64 a, .int .i64 b]) ∧ Held w0 w' own' t M ∧ Keeps own own' w w' := by
  refine (room_tree' w own t M i H.tree H.good).mono ?_
  rintro e w' ⟨rfl, own', hT, hK⟩
  rw [he]
  exact ⟨own', rfl, H.step hT H.good hK, hK⟩
theorem kp_live (i : Int) {F : Nat} (hF : Big M F) {a b : Int} (he : liveIn M F i = (a, b)) :
    Calls Try.prog 17 #[.pointer (some ⟨t, 0, none⟩), .int .i64 i] w fun e w' => ∃ own', e = .returned (.tuple #[.int .i64 a, .int .i64 b]) ∧ Held w0 w' own' t M ∧ Keeps own own' w w' := by
  refine (live_tree' w own t M i F H.tree H.good hF).mono ?_
  rintro e w' ⟨rfl, own', hT, hK⟩
  rw [he]
  exact ⟨own', rfl, H.step hT H.good hK, hK⟩
/-- Save: the state lies in blocks that are not the tree's. -/
theorem kp_save : Calls Try.prog 11 #[.pointer (some ⟨t, 0, none⟩)] w fun e w' => (∃ A c, e = .returned (.agg #[.slice A (save M).length c]) ∧ StK (fun k => own k = none ∧ w0.heap.size ≤ k) w' A c (save M)) ∧ Held w0 w' own t M ∧ Below w.heap.size w w' := by
  refine (save_ok w own t M H.tree H.good).mono ?_
  rintro e w' ⟨⟨A, c, rfl, hS⟩, hb⟩
  refine ⟨⟨A, c, rfl, hS.keep fun k hk _ => ⟨rfl, ?_, Nat.le_trans H.below.size hk⟩⟩, H.of_below hb, hb⟩
  cases e : own k with
  | none => rfl
  | some v => exact absurd (H.fresh k (by rw [e]; simp)) (by omega)
theorem held_cell {g o : Nat} {v : Value} (hg : g < w0.heap.size) (hc : w0.cell? ⟨g, o, none⟩ = some v) : w.cell? ⟨g, o, none⟩ = some v := (H.below.cell (p := ⟨g, o, none⟩) hg).trans hc
end

/-- A state is kept where a tree is worked on. -/
theorem StK.keeps {w w' : World} {own own' : Nat → Option Nat} {b : Nat} {A : Option Addr} {c : Nat} {s : List SN} (h : StK (fun k => own k = none ∧ b ≤ k) w A c s) (hk : Keeps own own' w w') : StK (fun k => own' k = none ∧ b ≤ k) w' A c s :=
  h.keep fun k h1 h2 => ⟨hk.block k h2 h1.1, (hk.same k h2).trans h1.1, h1.2⟩

theorem big_live {M : Tr} (h : Good M) {F : Nat} (hF : Big M F) {i : Nat} {n : Node} (hi : M[i]? = some (some n)) : 0 ≤ live M F n.l ∧ live M F n.l ≤ n.s ∧ LiveOk M F n.l := by
  obtain ⟨d, D, hr, hD⟩ := hF
  obtain ⟨h1, h2, h3⟩ := live_ok h hr F i n hi (by omega)
  exact ⟨h2, h3, h1⟩

set_option maxRecDepth 100000 in
set_option maxHeartbeats 2000000 in
theorem room_walk (w : World) (size : Int) (A : Option Addr) (c : Nat) (l : List Cl) (x : Cl) (h : CallsAt w A c l) :
    Calls Try.prog 6 #[.int .i64 size, .slice A l.length c, .agg #[.int .u8 x.what, .int .i64 x.node, .int .i64 x.items, .int .i64 x.size, .int .i64 x.align]] w fun e w' => e = .returned (.bool true) ∧ Below w.heap.size w w' := by
  have HMade := fun o => Lib.hid (made_calls (w.alloc o) size A c l (h.below ((Below.refl _ _).alloc (Nat.le_refl _) o)))
  clear h
  generalize l.length = L at *
  go_enter Try.func6, Try.ntmps6
  go_wp2_with (go_at_call 9; fail)
  refine (HMade _).out.mono ?_
  have hbx : ∀ o v, (#[.int .u8 x.what, .int .i64 x.node, .int .i64 x.items, .int .i64 x.size, .int .i64 x.align] : Array Value)[o]? = some v → (w.alloc (.cells #[.int .u8 x.what, .int .i64 x.node, .int .i64 x.items, .int .i64 x.size, .int .i64 x.align] 49)).cell? ⟨w.heap.size, o, none⟩ = some v := by
    intro o v hv
    rw [World.cell?_alloc_at _ _ _ _ rfl]; exact hv
  have hx1 := hbx 1 _ rfl
  have hx3 := hbx 3 _ rfl
  have hW0 : Below w.heap.size w (w.alloc (.cells #[.int .u8 x.what, .int .i64 x.node, .int .i64 x.items, .int .i64 x.size, .int .i64 x.align] 49)) := (Below.refl _ _).alloc (Nat.le_refl _) _
  have hWl : w.heap.size < (w.alloc (.cells #[.int .u8 x.what, .int .i64 x.node, .int .i64 x.items, .int .i64 x.size, .int .i64 x.align] 49)).heap.size := by simp
  generalize (w.alloc (.cells #[.int .u8 x.what, .int .i64 x.node, .int .i64 x.items, .int .i64 x.size, .int .i64 x.align] 49)) = w0 at *
  have HW0 := Lib.hid hW0
  clear hbx hW0 HMade
  rintro e w1 (⟨rfl, hb1⟩ | ⟨_, _, _, t, own1, M, rfl, H1, _⟩)
  · go_wp2_with (go_at_call 10; refine (awake_ok _).mono ?_; rintro e w2 ⟨rfl, hb2⟩)
    go_ret
    exact ⟨rfl, HW0.out.trans ((hb1.trans (hb2.mono hb1.size)).mono HW0.out.size)⟩
  obtain ⟨F, hF⟩ := H1.good.big
  have hF1 : Big M (F + 1) := by obtain ⟨d, D, hr, hD⟩ := hF; exact ⟨d, D, hr, by omega⟩
  have HF := Lib.hid (And.intro hF hF1)
  clear hF hF1
  have x1 := held_cell H1 hWl hx1
  cases hf : find M x.node with
  | none =>
    have e1 : mark M x.node = (0, 4) := by simp [mark, hf]
    have e2 : roomOf M x.node = (0, 4) := by simp [roomOf, hf]
    have e3 : liveIn M F x.node = (0, 4) := by simp [liveIn, hf]
    have E := Lib.hid (And.intro e1 (And.intro e2 e3))
    clear hf e1 e2 e3
    go_wp2_with (go_at_call 19; fail)
    refine (kp_mark H1 _ E.out.1).mono ?_
    rintro e w2 ⟨own2, rfl, H2, _⟩
    have x1 := held_cell H2 hWl hx1
    go_wp2_with (go_at_call 21; fail)
    refine (kp_room H2 _ E.out.2.1).mono ?_
    rintro e w3 ⟨own3, rfl, H3, _⟩
    have x1 := held_cell H3 hWl hx1
    go_wp2_with (go_at_call 17; fail)
    refine (kp_live H3 _ HF.out.1 E.out.2.2).mono ?_
    rintro e w4 ⟨own4, rfl, H4, _⟩
    go_wp2_with (go_at_call 10; fail)
    refine (awake_ok _).mono ?_
    rintro e w5 ⟨rfl, hb5⟩
    go_wp2
    go_ret
    exact ⟨rfl, HW0.out.trans ((H4.below.trans (hb5.mono H4.below.size)).mono HW0.out.size)⟩
  | some n =>
    obtain ⟨h0, hi⟩ := find_some hf
    generalize x.node = y at *
    obtain ⟨k, rfl⟩ := Int.eq_ofNat_of_zero_le h0
    rw [Int.toNat_natCast] at hi
    have hok := H1.good.node k n hi
    have e1 : mark M k = ((n.l.length : Int), 0) := by simp [mark, hf]
    have e2 : roomOf M k = (n.a + n.s - n.fin, 0) := by simp [roomOf, hf]
    have e3 : liveIn M (F + 1) k = (live M (F + 1) n.l, 0) := by simp [liveIn, hf]
    obtain ⟨v1, v2, v3⟩ := big_live H1.good HF.out.2 hi
    obtain ⟨v4, v5, v6⟩ := v3
    have f1 := hok.fin
    have f2 := hok.s1
    have f3 := hok.a0
    have f4 := hok.top
    have f5 := hok.len
    have hkM : k < M.length := (List.getElem?_eq_some_iff.1 hi).1
    have hM64 := H1.good.len
    have E := Lib.hid (And.intro e1 (And.intro e2 (And.intro e3 (And.intro v4 (And.intro v5 v6)))))
    have HN := Lib.hid (And.intro hf (And.intro hi hok))
    clear hf e1 e2 e3 v4 v5 v6 hi hok h0
    go_wp2_with (go_at_call 19; fail)
    refine (kp_mark H1 _ E.out.1).mono ?_
    rintro e w2 ⟨own2, rfl, H2, _⟩
    have x1 := held_cell H2 hWl hx1
    go_wp2_with (go_at_call 21; fail)
    refine (kp_room H2 _ E.out.2.1).mono ?_
    rintro e w3 ⟨own3, rfl, H3, _⟩
    have x1 := held_cell H3 hWl hx1
    go_wp2_with (go_at_call 17; fail)
    refine (kp_live H3 _ HF.out.2 E.out.2.2.1).mono ?_
    rintro e w4 ⟨own4, rfl, H4, _⟩
    go_wp2_with (go_at_call 11; fail)
    refine (kp_save H4).mono ?_
    rintro e w5 ⟨⟨A5, c5, rfl, hS⟩, H5, _⟩
    have hsl : (save M).length = M.length := by simp [save]
    obtain ⟨hs1, hs2, hs3⟩ := hS
    obtain ⟨g, o, B, cB, rfl, hKg, ⟨cur, hcur⟩, q0, q1, q2, q3, q4, hRow⟩ := hs3 k (saveNode (some n)) (by rw [save, List.getElem?_map, HN.out.2.1]; rfl)
    have hgl := lt_of_heap hcur
    have x1 := held_cell H5 hWl hx1
    have x3 := held_cell H5 hWl hx3
    have hBl : w.heap.size < w5.heap.size := Nat.lt_of_lt_of_le hWl H5.below.size
    rw [hsl] at hs1
    unfold maxLen at hs2
    have H6 : Held w0 (w5.alloc (.cells #[.slice (some ⟨g, o, none⟩) (save M).length c5] 28)) own4 t M := H5.of_below ((Below.refl _ _).alloc (Nat.le_refl _) _)
    have r14 : (w5.alloc (.cells #[.slice (some ⟨g, o, none⟩) (save M).length c5] 28)).cell? ⟨w5.heap.size, 0, none⟩ = some (.slice (some ⟨g, o, none⟩) (save M).length c5) := by
      rw [World.cell?_alloc_at _ _ _ _ rfl]; rfl
    have hR6 : RowK (fun k => own4 k = none ∧ w0.heap.size ≤ k) (w5.alloc (.cells #[.slice (some ⟨g, o, none⟩) (save M).length c5] 28)) B cB n.l := hRow.below ((Below.refl _ _).alloc (Nat.le_refl _) _)
    have q2 : (w5.alloc (.cells #[.slice (some ⟨g, o, none⟩) (save M).length c5] 28)).cell? ⟨g, o + k * 5 + 2, none⟩ = some (.int .i64 n.s) := (World.cell?_alloc_lt _ _ _ hgl).trans q2
    have q3 : (w5.alloc (.cells #[.slice (some ⟨g, o, none⟩) (save M).length c5] 28)).cell? ⟨g, o + k * 5 + 3, none⟩ = some (.slice B n.l.length cB) := (World.cell?_alloc_lt _ _ _ hgl).trans q3
    have hbo : own4 w5.heap.size = none := by
      cases e : own4 w5.heap.size with
      | none => rfl
      | some v => exact absurd (H5.fresh _ (by rw [e]; simp)) (by omega)
    have hg6 : g < (w5.alloc (.cells #[.slice (some ⟨g, o, none⟩) (save M).length c5] 28)).heap.size := by simp; omega
    have hb6 : w5.heap.size < (w5.alloc (.cells #[.slice (some ⟨g, o, none⟩) (save M).length c5] 28)).heap.size := by simp
    have hRl := hR6.1
    have hRm := hR6.2.1
    unfold maxLen at hRm
    have hS5 := Lib.hid (And.intro H6 (And.intro hR6 (And.intro hKg hbo)))
    clear H1 H2 H3 H4 H6 hcur hs3 q0 q1 q4 hRow hR6 hKg hbo
    have HSL := Lib.hid hsl
    rw [hsl] at r14 q2 q3 hg6 hb6 hS5
    go_wp2_with fail
    clear x1 x3
    generalize (w5.alloc (.cells #[.slice (some ⟨g, o, none⟩) M.length c5] 28)) = W6 at *
    have HSum := Lib.hid (fun j => E.out.2.2.2.2.1 j)
    go_loopw [15, 16, 17, 18, 19] (fun s i p m e wr => ∃ (j : Nat) (own : Nat → Option Nat), j ≤ n.l.length ∧ i = .int .i64 j ∧ s = .int .i64 (live M (F + 1) (n.l.take j)) ∧ Held w0 wr own t M ∧ Keeps own4 own W6 wr) (fun _ i _ _ _ _ => n.l.length - (intOf i).toNat)
    case atStart => exact ⟨0, own4, Nat.zero_le _, rfl, rfl, hS5.out.1, Keeps.refl _ _⟩
    case round =>
      obtain ⟨j, own, hj, rfl, rfl, H, hK⟩ := hrel
      have x1 := held_cell H hWl hx1
      have x3 := held_cell H hWl hx3
      have y14 : wr.cell? ⟨w5.heap.size, 0, none⟩ = some (.slice (some ⟨g, o, none⟩) M.length c5) := (World.cell?_of_block (a := ⟨w5.heap.size, 0, none⟩) (hK.block _ hb6 hS5.out.2.2.2)).trans r14
      have y2 : wr.cell? ⟨g, o + k * 5 + 2, none⟩ = some (.int .i64 n.s) := (World.cell?_of_block (a := ⟨g, _, none⟩) (hK.block _ hg6 hS5.out.2.2.1.1)).trans q2
      have y3 : wr.cell? ⟨g, o + k * 5 + 3, none⟩ = some (.slice B n.l.length cB) := (World.cell?_of_block (a := ⟨g, _, none⟩) (hK.block _ hg6 hS5.out.2.2.1.1)).trans q3
      by_cases hjl : j < n.l.length
      · obtain ⟨z, hz⟩ : ∃ z, n.l[j]? = some z := ⟨_, List.getElem?_eq_getElem hjl⟩
        have hzm := List.mem_of_getElem? hz
        obtain ⟨g2, o2, rfl, hK2, ⟨cur2, hcur2⟩, s0, s1, s2⟩ := hS5.out.2.1.2.2 j z hz
        have hblk := hK.block _ (lt_of_heap hcur2) hK2.1
        have s0 := (World.cell?_of_block (a := ⟨g2, _, none⟩) hblk).trans s0
        have s1 := (World.cell?_of_block (a := ⟨g2, _, none⟩) hblk).trans s1
        have s2 := (World.cell?_of_block (a := ⟨g2, _, none⟩) hblk).trans s2
        have hlt := live_take M F n.l j z hz
        have hsum := HSum.out (j + 1)
        rw [hlt] at hsum
        have hsum0 := HSum.out j
        have hz3 := E.out.2.2.2.2.2 z hzm
        have HLT := Lib.hid hlt
        have HK := Lib.hid (And.intro H hK)
        have HA : ∀ ob, Held w0 (wr.alloc ob) own t M := fun ob => H.of_below ((Below.refl _ _).alloc (Nat.le_refl _) _)
        have HAK : ∀ ob, Keeps own4 own W6 (wr.alloc ob) := fun ob => hK.trans (.of_below own ((Below.refl _ _).alloc (Nat.le_refl _) _))
        have HA := Lib.hid (And.intro HA HAK)
        clear hlt hz H hK hblk hcur2 hK2 HAK
        by_cases hc1 : z.c = -1
        · have hlo : liveOf M F z = z.s := by simp [liveOf, hc1]
          rw [hlo] at hsum
          have HLO := Lib.hid hlo
          clear hlo
          generalize live M (F + 1) (n.l.take j) = S at *
          rw [hc1] at s2
          clear hc1
          go_wp2
          go_roundw
          case rel => exact ⟨j + 1, own, by omega, by go_num, by rw [HLT.out, HLO.out], HA.out.1 _, HA.out.2 _⟩
          case measure => simp [intOf]; omega
        · have hcb : (z.c == -1) = false := by rw [beq_eq_false_iff_ne]; exact hc1
          clear hc1
          by_cases hc0 : 0 ≤ z.c
          · obtain ⟨kk, hkk, hkl, hkok⟩ := E.out.2.2.2.1 z hzm hc0
            have hlo : liveOf M F z = live M F kk.l := by simp [liveOf, hc0, itemsOf, hkk]
            have hfk : find M z.c = some kk := by unfold find; rw [if_neg (by omega), hkk]; rfl
            have hli : liveIn M F z.c = (live M F kk.l, 0) := by simp [liveIn, hfk]
            rw [hlo] at hsum
            have HLO := Lib.hid hlo
            have HLi := Lib.hid hli
            clear hlo hkk hkok hfk hli
            generalize live M (F + 1) (n.l.take j) = S at *
            generalize live M F kk.l = V at *
            go_wp2_with (go_at_call 17; fail)
            refine (kp_live (HA.out.1 _) z.c HF.out.1 HLi.out).mono ?_
            rintro e w7 ⟨own7, rfl, H7, hK7⟩
            have HH7 := Lib.hid (And.intro H7 hK7)
            clear H7 hK7
            go_wp2
            go_roundw
            case rel =>
              have HREL : ∃ (j' : Nat) (own : Nat → Option Nat), j' ≤ n.l.length ∧ Value.int .i64 ((j:Int)+1) = .int .i64 j' ∧ Value.int .i64 (S + V) = .int .i64 (live M (F + 1) (n.l.take j')) ∧ Held w0 w7 own t M ∧ Keeps own4 own W6 w7 := ⟨j + 1, own7, by omega, by go_num, by rw [HLT.out, HLO.out], HH7.out.1, (HA.out.2 _).trans HH7.out.2⟩
              have d1 : decide (List.length M ≤ k) = false := decide_eq_false (by omega)
              repeat (apply Exists.intro (α := Value))
              refine ⟨HREL, ?_⟩
              rw [d1]
              rfl
            case measure => simp [intOf]; omega
          · have hlo : liveOf M F z = 0 := by
              have : ¬ z.c = -1 := by simpa using hcb
              simp [liveOf, hc0, this]
            rw [hlo] at hsum
            have HLO := Lib.hid hlo
            clear hlo
            generalize live M (F + 1) (n.l.take j) = S at *
            go_wp2
            go_roundw
            case rel => exact ⟨j + 1, own, by omega, by go_num, by rw [HLT.out, HLO.out]; simp, HA.out.1 _, HA.out.2 _⟩
            case measure => simp [intOf]; omega
      · obtain rfl : j = n.l.length := by omega
        rw [List.take_length]
        have hbr : Below w0.heap.size w0 wr := H.below
        have HA := Lib.hid (alloc_one HN.out.1 x.size)
        have HR := Lib.hid (fun b => room_set HN.out.2.1 b)
        have HE := Lib.hid (And.intro H E.out.2.1)
        have HB := Lib.hid (HW0.out.trans (hbr.mono HW0.out.size))
        have HW1 := HW0.out.size
        clear H hK HN E HSL hS5 HSum HF
        by_cases hs1 : x.size < 1
        · go_wp2_with (go_at_call 10; fail)
          refine (awake_ok _).mono ?_
          rintro e w8 ⟨rfl, hb8⟩
          go_wp2
          go_ret
          exact ⟨rfl, HB.out.trans (hb8.mono (Nat.le_trans HW1 hbr.size))⟩
        by_cases hs2 : 65536 < x.size
        · go_wp2_with (go_at_call 10; fail)
          refine (awake_ok _).mono ?_
          rintro e w8 ⟨rfl, hb8⟩
          go_wp2
          go_ret
          exact ⟨rfl, HB.out.trans (hb8.mono (Nat.le_trans HW1 hbr.size))⟩
        have hA := HA.out (by omega) (by omega)
        by_cases hfull : n.a + n.s - n.fin < x.size ∨ n.l.length = 200
        · have HA1 := Lib.hid (hA.1 hfull)
          clear hA HA
          go_wp2_with (go_at_call 16; fail)
          refine (kp_alloc HE.out.1 _ _ _ HA1.out).mono ?_
          rintro e w8 ⟨own8, rfl, H8, hK8⟩
          have x3 := held_cell H8 hWl hx3
          have x1 := held_cell H8 hWl hx1
          go_wp2_with (go_at_call 21; fail)
          refine (kp_room H8 _ HE.out.2).mono ?_
          rintro e w9 ⟨own9, rfl, H9, hK9⟩
          have x3 := held_cell H9 hWl hx3
          by_cases hfl : n.a + n.s - n.fin < x.size
          · go_wp2_with (go_at_call 10; fail)
            refine (awake_ok _).mono ?_
            rintro e w10 ⟨rfl, hb10⟩
            go_wp2
            go_ret
            exact ⟨rfl, HW0.out.trans ((H9.below.trans (hb10.mono H9.below.size)).mono HW0.out.size)⟩
          · have hfl2 : n.l.length = 200 := by omega
            clear hfull
            go_wp2_with (go_at_call 10; fail)
            refine (awake_ok _).mono ?_
            rintro e w10 ⟨rfl, hb10⟩
            go_wp2
            go_ret
            exact ⟨rfl, HW0.out.trans ((H9.below.trans (hb10.mono H9.below.size)).mono HW0.out.size)⟩
        · have HA1 := Lib.hid (hA.2 hfull)
          clear hA HA
          go_wp2_with (go_at_call 16; fail)
          refine (kp_alloc HE.out.1 _ _ _ HA1.out).mono ?_
          rintro e w8 ⟨own8, rfl, H8, hK8⟩
          have x3 := held_cell H8 hWl hx3
          have x1 := held_cell H8 hWl hx1
          go_wp2_with (go_at_call 21; fail)
          refine (kp_room H8 _ (HR.out _)).mono ?_
          rintro e w9 ⟨own9, rfl, H9, hK9⟩
          have x3 := held_cell H9 hWl hx3
          go_wp2_with (go_at_call 10; fail)
          refine (awake_ok _).mono ?_
          rintro e w10 ⟨rfl, hb10⟩
          go_wp2
          go_ret
          refine ⟨?_, HW0.out.trans ((H9.below.trans (hb10.mono H9.below.size)).mono HW0.out.size)⟩
          first | rfl | (simp; omega)
end Ne
end Go.Proofs.Ytllmddhahpegmaa
