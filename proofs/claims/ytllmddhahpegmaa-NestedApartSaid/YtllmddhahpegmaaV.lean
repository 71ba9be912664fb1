/- The walk of made. -/
import Derived.Test.YtllmddhahpegmaaU
import Derived.Test.YtllmddhahpegmaaPlain7
namespace Go.Proofs.Ytllmddhahpegmaa
open Go.RowKit
namespace Ne

/-- A call, as the statements draw it. -/
structure Cl where
  what : Int
  node : Int
  items : Int
  size : Int
  align : Int

def CallsAt (w : World) (A : Option Addr) (c : Nat) (l : List Cl) : Prop :=
  l.length ≤ c ∧ c ≤ maxLen ∧ ∀ (j : Nat) (x : Cl), l[j]? = some x → ∃ g o, A = some ⟨g, o, none⟩ ∧ g < w.heap.size ∧ 0 ≤ x.what ∧ x.what ≤ 255 ∧
    w.cell? ⟨g, o + j * 5, none⟩ = some (.int .u8 x.what) ∧ w.cell? ⟨g, o + j * 5 + 1, none⟩ = some (.int .i64 x.node) ∧ w.cell? ⟨g, o + j * 5 + 2, none⟩ = some (.int .i64 x.items) ∧
    w.cell? ⟨g, o + j * 5 + 3, none⟩ = some (.int .i64 x.size) ∧ w.cell? ⟨g, o + j * 5 + 4, none⟩ = some (.int .i64 x.align)

theorem CallsAt.below {w w' : World} {A : Option Addr} {c : Nat} {l : List Cl} (h : CallsAt w A c l) (hb : Below w.heap.size w w') : CallsAt w' A c l := by
  refine ⟨h.1, h.2.1, fun j x hx => ?_⟩
  obtain ⟨g, o, hA, hg, w0, w1, k0, k1, k2, k3, k4⟩ := h.2.2 j x hx
  exact ⟨g, o, hA, Nat.lt_of_lt_of_le hg hb.size, w0, w1, (hb.cell (p := ⟨g, _, none⟩) hg).trans k0, (hb.cell (p := ⟨g, _, none⟩) hg).trans k1, (hb.cell (p := ⟨g, _, none⟩) hg).trans k2, (hb.cell (p := ⟨g, _, none⟩) hg).trans k3, (hb.cell (p := ⟨g, _, none⟩) hg).trans k4⟩

section
variable {w0 w : World} {own : Nat → Option Nat} {t : Nat} {M : Tr} {z : Int} (H : Held w0 w own t M) (hz : RootS M z)
include H hz
theorem go_alloc (i sz al : Int) : Calls Try.prog 16 #[.pointer (some ⟨t, 0, none⟩), .int .i64 i, .int .i64 sz, .int .i64 al] w fun e w' => ∃ v own' M', e = .returned v ∧ Held w0 w' own' t M' ∧ RootS M' z :=
  (step_alloc H i sz al rfl).mono fun _ _ ⟨own', he, h⟩ => ⟨_, own', _, he, h, hz.alloc i sz al⟩
theorem go_begin (i sz al : Int) : Calls Try.prog 22 #[.pointer (some ⟨t, 0, none⟩), .int .i64 i, .int .i64 sz, .int .i64 al] w fun e w' => ∃ v own' M', e = .returned v ∧ Held w0 w' own' t M' ∧ RootS M' z :=
  (step_begin H i sz al rfl).mono fun _ _ ⟨own', he, h⟩ => ⟨_, own', _, he, h, hz.begin_ i sz al⟩
theorem go_rewind (i m : Int) : Calls Try.prog 20 #[.pointer (some ⟨t, 0, none⟩), .int .i64 i, .int .i64 m] w fun e w' => ∃ v own' M', e = .returned v ∧ Held w0 w' own' t M' ∧ RootS M' z := by
  obtain ⟨F, hF⟩ := H.good.big
  exact (step_rewind H i m hF rfl).mono fun _ _ ⟨own', he, h⟩ => ⟨_, own', _, he, h, hz.rewind H.good hF i m⟩
theorem go_stop (i : Int) : Calls Try.prog 18 #[.pointer (some ⟨t, 0, none⟩), .int .i64 i] w fun e w' => ∃ v own' M', e = .returned v ∧ Held w0 w' own' t M' ∧ RootS M' z := by
  obtain ⟨F, hF⟩ := H.good.big
  exact (step_stop H i hF rfl).mono fun _ _ ⟨own', he, h⟩ => ⟨_, own', _, he, h, hz.stop H.good hF i⟩
end

/-- What made returns. -/
def Made (w : World) (size : Int) (L : Nat) (e : Ending) (w' : World) : Prop :=
  (e = .returned (.pointer none) ∧ Below w.heap.size w w') ∨ (L ≤ 60 ∧ 1 ≤ size ∧ size ≤ 65536 ∧ ∃ t own M, e = .returned (.pointer (some ⟨t, 0, none⟩)) ∧ Held w w' own t M ∧ RootS M size)

set_option maxRecDepth 100000 in
set_option maxHeartbeats 1000000 in
theorem made_calls (w : World) (size : Int) (A : Option Addr) (c : Nat) (l : List Cl) (h : CallsAt w A c l) :
    Calls Try.prog 9 #[.int .i64 size, .slice A l.length c] w (Made w size l.length) := by
  obtain ⟨hlc, hcm, hcell⟩ := h
  unfold maxLen at hcm
  have HC := Lib.hid hcell
  clear hcell
  by_cases h60 : 60 < l.length
  · have HM : ∀ e w', e = .returned (.pointer none) → w' = w → Made w size l.length e w' := fun e w' h1 h2 => .inl ⟨h1, by rw [h2]; exact Below.refl _ _⟩
    have HM := Lib.hid HM
    generalize l.length = L at *
    go_enter Try.func9, Try.ntmps9
    go_wp2
    go_ret
    exact HM.out _ _ rfl rfl
  · by_cases hs : size < 1 ∨ 65536 < size
    · have HM : ∀ e w', e = .returned (.pointer none) → w' = w → Made w size l.length e w' := fun e w' h1 h2 => .inl ⟨h1, by rw [h2]; exact Below.refl _ _⟩
      have HM := Lib.hid HM
      generalize l.length = L at *
      go_enter Try.func9, Try.ntmps9
      go_wp2_with (go_at_call 25; refine (new_bad size _ hs).mono ?_; rintro e w' ⟨rfl, rfl⟩)
      go_ret
      exact HM.out _ _ rfl rfl
    · obtain ⟨P, hP⟩ : ∃ P, P = Made w size l.length := ⟨_, rfl⟩
      rw [← hP]
      have HP := Lib.hid hP
      clear hP
      generalize hL : l.length = L at *
      have HL := Lib.hid hL
      clear hL
      go_enter Try.func9, Try.ntmps9
      go_wp2_with (go_at_call 25; fail)
      refine (new_held size w (by omega) (by omega)).mono ?_
      rintro e w1 ⟨own1, t, rfl, H1⟩
      go_wp2_with fail
      go_loopw [7, 8] (fun i x wr => ∃ (j : Nat) (own : Nat → Option Nat) (M : Tr), j ≤ L ∧ i = .int .i64 j ∧ Held w wr own t M ∧ RootS M size) (fun i _ _ => L - (intOf i).toNat)
      case atStart => exact ⟨0, own1, newTr size, Nat.zero_le _, rfl, H1, _, rfl, rfl⟩
      case round =>
        obtain ⟨j, own, M, hj, rfl, H, hz⟩ := hrel
        by_cases hjl : j < L
        · obtain ⟨x, hx⟩ : ∃ x, l[j]? = some x := ⟨_, List.getElem?_eq_getElem (by rw [HL.out]; exact hjl)⟩
          obtain ⟨g, o, rfl, hg, y0, y1, k0, k1, k2, k3, k4⟩ := HC.out j x hx
          have k0 := (H.below.cell (p := ⟨g, _, none⟩) hg).trans k0
          have k1 := (H.below.cell (p := ⟨g, _, none⟩) hg).trans k1
          have k2 := (H.below.cell (p := ⟨g, _, none⟩) hg).trans k2
          have k3 := (H.below.cell (p := ⟨g, _, none⟩) hg).trans k3
          have k4 := (H.below.cell (p := ⟨g, _, none⟩) hg).trans k4
          have H2 : ∀ o, Held w (wr.alloc o) own t M := fun o => H.of_below ((Below.refl _ _).alloc (Nat.le_refl _) _)
          have HA := fun o => Lib.hid (go_alloc (H2 o) hz x.node x.size x.align)
          have HB := fun o => Lib.hid (go_begin (H2 o) hz x.node x.size x.align)
          have HR := fun o => Lib.hid (go_rewind (H2 o) hz x.node x.items)
          have HS := fun o => Lib.hid (go_stop (H2 o) hz x.node)
          clear H H2 hx hz
          have hcase : x.what % 8 = 3 ∨ x.what % 8 = 4 ∨ x.what % 8 = 5 ∨ (x.what % 8 ≠ 3 ∧ x.what % 8 ≠ 4 ∧ x.what % 8 ≠ 5) := by omega
          rcases hcase with hc | hc | hc | ⟨hc1, hc2, hc3⟩
          · have b3 : (x.what % 8 == 3) = true := by rw [beq_iff_eq]; exact hc
            clear hc
            go_wp2_with (first | (go_at_call 22; refine (HB _).out.mono ?_; rintro e w2 ⟨v, own2, M2, rfl, H2, hz2⟩))
            go_roundw
            case rel => exact ⟨j + 1, own2, M2, by omega, by go_num, H2, hz2⟩
            case measure => simp [intOf]; omega
          · have b3 : (x.what % 8 == 3) = false := by rw [beq_eq_false_iff_ne]; omega
            have b4 : (x.what % 8 == 4) = true := by rw [beq_iff_eq]; exact hc
            clear hc
            go_wp2_with (first | (go_at_call 20; refine (HR _).out.mono ?_; rintro e w2 ⟨v, own2, M2, rfl, H2, hz2⟩))
            go_roundw
            case rel => exact ⟨j + 1, own2, M2, by omega, by go_num, H2, hz2⟩
            case measure => simp [intOf]; omega
          · have b3 : (x.what % 8 == 3) = false := by rw [beq_eq_false_iff_ne]; omega
            have b4 : (x.what % 8 == 4) = false := by rw [beq_eq_false_iff_ne]; omega
            have b5 : (x.what % 8 == 5) = true := by rw [beq_iff_eq]; exact hc
            clear hc
            go_wp2_with (first | (go_at_call 18; refine (HS _).out.mono ?_; rintro e w2 ⟨v, own2, M2, rfl, H2, hz2⟩))
            go_roundw
            case rel => exact ⟨j + 1, own2, M2, by omega, by go_num, H2, hz2⟩
            case measure => simp [intOf]; omega
          · have b3 : (x.what % 8 == 3) = false := by rw [beq_eq_false_iff_ne]; omega
            have b4 : (x.what % 8 == 4) = false := by rw [beq_eq_false_iff_ne]; omega
            have b5 : (x.what % 8 == 5) = false := by rw [beq_eq_false_iff_ne]; omega
            clear hc1 hc2 hc3
            go_wp2_with (first | (go_at_call 16; refine (HA _).out.mono ?_; rintro e w2 ⟨v, own2, M2, rfl, H2, hz2⟩))
            go_roundw
            case rel => exact ⟨j + 1, own2, M2, by omega, by go_num, H2, hz2⟩
            case measure => simp [intOf]; omega
        · obtain rfl : j = L := by omega
          have HF := Lib.hid (And.intro H hz)
          clear H hz
          go_wp2
          rw [HP.out]
          exact .inr ⟨by omega, by omega, by omega, t, own, M, rfl, HF.out.1, HF.out.2⟩
end Ne
end Go.Proofs.Ytllmddhahpegmaa
