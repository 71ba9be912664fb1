/- The reference: Room, live, Live, power, Inside. The reference: live, Live, power. The reference: power, give. -/
import Derived.Test.YtllmddhahpegmaaM14
namespace Go.Proofs.Ytllmddhahpegmaa
open Go.RowKit
namespace Ne

/-- A copy of an arena, in a block of its own, stays as it is. -/
def EndS (w1 : World) (n : Node) (B : Option Addr) (L cB : Nat) (w' : World) : Prop :=
  Below w1.heap.size w1 w' ∧ w1.heap.size < w'.heap.size ∧ w'.cell? ⟨w1.heap.size, 0, none⟩ = some (.int .i64 n.p) ∧ w'.cell? ⟨w1.heap.size, 1, none⟩ = some (.int .i64 n.a) ∧ w'.cell? ⟨w1.heap.size, 2, none⟩ = some (.int .i64 n.s) ∧ w'.cell? ⟨w1.heap.size, 3, none⟩ = some (.slice B L cB) ∧ w'.cell? ⟨w1.heap.size, 4, none⟩ = some (.bool false)
theorem EndS.below {w1 w2 w3 : World} {n : Node} {B : Option Addr} {L cB : Nat} (h : EndS w1 n B L cB w2) (hb : Below w2.heap.size w2 w3) : EndS w1 n B L cB w3 := by
  obtain ⟨q0, q1, q2, q3, q4, q5, q6⟩ := h
  exact ⟨q0.trans (hb.mono (by omega)), by have := hb.size; omega, (hb.cell (p := ⟨w1.heap.size, _, none⟩) q1).trans q2, (hb.cell (p := ⟨w1.heap.size, _, none⟩) q1).trans q3, (hb.cell (p := ⟨w1.heap.size, _, none⟩) q1).trans q4, (hb.cell (p := ⟨w1.heap.size, _, none⟩) q1).trans q5, (hb.cell (p := ⟨w1.heap.size, _, none⟩) q1).trans q6⟩

set_option maxHeartbeats 1000000 in
theorem roomR_ok (K : Nat → Prop) (w : World) (A : Option Addr) (c : Nat) (M : Tr) (i : Int) (h : StK K w A c (save M)) (hg : Good M) :
    Calls Try.prog 63 #[.agg #[.slice A M.length c], .int .i64 i] w fun e w' => e = .returned (.tuple #[.int .i64 (roomOf M i).1, .int .i64 (roomOf M i).2]) ∧ Below w.heap.size w w' := by
  obtain ⟨hc1, hc2⟩ := st_len h
  have hbx := below_box w (.cells #[.slice A M.length c] 28)
  have hS1 := h.below hbx
  cases hf : find M i with
  | none =>
    rw [show roomOf M i = (0, 4) by simp [roomOf, hf]]
    have HO := Lib.hid (open_no K _ A c M i hS1 hf)
    have HB := Lib.hid hbx
    clear h hbx hS1 hf hg
    go_enter Try.func63, Try.ntmps63
    go_wp2_with (go_at_call 52; refine HO.out.mono ?_; rintro e w1 ⟨rfl, hb1⟩; have HB1 := Lib.hid hb1; clear hb1)
    go_ret2
    exact ⟨rfl, HB.out.trans (HB1.out.mono HB.out.size)⟩
  | some n =>
    rw [show roomOf M i = (n.a + n.s - n.fin, 0) by simp [roomOf, hf]]
    obtain ⟨h0, hi⟩ := find_some hf
    obtain ⟨k, rfl⟩ := Int.eq_ofNat_of_zero_le h0
    rw [Int.toNat_natCast] at hi
    have hk := (List.getElem?_eq_some_iff.1 hi).1
    have hok := hg.node k n hi
    have hfin := hok.fin
    have ha := hok.a0
    have hs := hok.s1
    have ht := hok.top
    have HO := Lib.hid (open_yes K _ A c M k n hS1 hf)
    have HB := Lib.hid hbx
    obtain ⟨g, f, B, cB, rfl, hgl, p0, p1, p2, p3, p4, hR⟩ := st_at hS1 hi
    have HE := Lib.hid (fun w2 (hb : Below (w.alloc (.cells #[.slice (some ⟨g, f, none⟩) M.length c] 28)).heap.size _ w2) => endR_ok K w2 n B cB (RowK.below hR hb) (small_of hok) hok.len)
    have hs1 : (w.alloc (.cells #[.slice (some ⟨g, f, none⟩) M.length c] 28)).heap.size = w.heap.size + 1 := by simp
    have hbc : (w.alloc (.cells #[.slice (some ⟨g, f, none⟩) M.length c] 28)).cell? ⟨w.heap.size, 0, none⟩ = some (.slice (some ⟨g, f, none⟩) M.length c) := by rw [World.cell?_alloc_at _ _ _ _ rfl]; rfl
    replace p0 : (w.alloc (.cells #[.slice (some ⟨g, f, none⟩) M.length c] 28)).cell? ⟨g, f + k * 5, none⟩ = some (.int .i64 n.p) := p0
    replace p1 : (w.alloc (.cells #[.slice (some ⟨g, f, none⟩) M.length c] 28)).cell? ⟨g, f + k * 5 + 1, none⟩ = some (.int .i64 n.a) := p1
    replace p2 : (w.alloc (.cells #[.slice (some ⟨g, f, none⟩) M.length c] 28)).cell? ⟨g, f + k * 5 + 2, none⟩ = some (.int .i64 n.s) := p2
    replace p3 : (w.alloc (.cells #[.slice (some ⟨g, f, none⟩) M.length c] 28)).cell? ⟨g, f + k * 5 + 3, none⟩ = some (.slice B n.l.length cB) := p3
    replace p4 : (w.alloc (.cells #[.slice (some ⟨g, f, none⟩) M.length c] 28)).cell? ⟨g, f + k * 5 + 4, none⟩ = some (.bool false) := p4
    clear h hbx hS1 hf hi hg hR h0 hok
    unfold EndAt at HE
    generalize n.fin = F at *
    generalize n.l.length = L at *
    go_enter Try.func63, Try.ntmps63
    go_wp2_with (go_at_call 52; fail)
    generalize (w.alloc (.cells #[.slice (some ⟨g, f, none⟩) M.length c] 28)) = W1 at *
    refine HO.out.mono ?_
    rintro e w1 ⟨rfl, hb1⟩
    replace p0 := (hb1.cell (p := ⟨g, _, none⟩) hgl).trans p0
    replace p1 := (hb1.cell (p := ⟨g, _, none⟩) hgl).trans p1
    replace p2 := (hb1.cell (p := ⟨g, _, none⟩) hgl).trans p2
    replace p3 := (hb1.cell (p := ⟨g, _, none⟩) hgl).trans p3
    replace p4 := (hb1.cell (p := ⟨g, _, none⟩) hgl).trans p4
    replace hbc := (hb1.cell (p := ⟨w.heap.size, _, none⟩) (show w.heap.size < W1.heap.size by omega)).trans hbc
    have HB1 := Lib.hid hb1
    have hbs := hb1.size
    clear hb1
    go_wp2_with fail
    have S0 : EndS w1 n B L cB (w1.alloc (.cells #[.int .i64 n.p, .int .i64 n.a, .int .i64 n.s, .slice B L cB, .bool false] 35)).drew := by
      refine ⟨(below_box _ _).drew, by show w1.heap.size < (w1.alloc _).heap.size; simp, ?_, ?_, ?_, ?_, ?_⟩ <;> exact World.cell?_alloc_at _ _ _ _ rfl
    unfold EndS at S0
    go_region_held3 (fun w' => Below w1.heap.size w1 w' ∧ w1.heap.size < w'.heap.size ∧ w'.cell? ⟨w1.heap.size, 0, none⟩ = some (.int .i64 n.p) ∧ w'.cell? ⟨w1.heap.size, 1, none⟩ = some (.int .i64 n.a) ∧ w'.cell? ⟨w1.heap.size, 2, none⟩ = some (.int .i64 n.s) ∧ w'.cell? ⟨w1.heap.size, 3, none⟩ = some (.slice B L cB) ∧ w'.cell? ⟨w1.heap.size, 4, none⟩ = some (.bool false))
      (first | go_keep | exact S0 | exact EndS.below (by assumption) hb3)
      (first | (go_at_call 70; refine (HE.out _ (HB1.out.trans (Below.mono (And.left (by assumption)) hbs))).mono ?_; rintro e w3 ⟨rfl, hb3⟩))
    go_wp2
    go_ret2
    have e1 : IntKind.i64.wrap (IntKind.i64.wrap (n.a + n.s) - F) = n.a + n.s - F := by
      rw [IntWalk.i64_in (n.a + n.s) (by omega), IntWalk.i64_in (n.a + n.s - F) (by omega)]
    rw [← e1]
    exact ⟨rfl, HB.out.trans ((HB1.out.trans ((S0.1.trans (hb3.mono (Nat.le_of_lt S0.2.1))).mono hbs)).mono HB.out.size)⟩
end Ne
end Go.Proofs.Ytllmddhahpegmaa
namespace Go.Proofs.Ytllmddhahpegmaa
open Go.RowKit
namespace Ne

set_option maxRecDepth 100000 in
set_option maxHeartbeats 2000000 in
theorem liveR_walk (M : Tr) (hm : M.length ≤ 64) (A : Option Addr) (c : Nat) (K : Nat → Prop) (f : Nat) : ∀ (k : Nat) (n : Node) (w : World), StK K w A c (save M) → M[k]? = some (some n) → LiveOk M f n.l → n.l.length ≤ 200 →
    Calls Try.prog 71 #[.agg #[.slice A M.length c], .int .i64 k] w fun e w' => e = .returned (.int .i64 (live M f n.l)) ∧ Below w.heap.size w w' := by
  induction f with
  | zero => intro k n w _ _ h; exact h.elim
  | succ f ih =>
    intro k n w h hk hL hlen
    obtain ⟨hkid, hsum, hsz⟩ := hL
    obtain ⟨hc1, hc2⟩ := st_len h
    have hkl := (List.getElem?_eq_some_iff.1 hk).1
    have hbx := below_box w (.cells #[.slice A M.length c] 28)
    obtain ⟨g, o, B, cB, rfl, hgl, _, _, _, p3, _, hR⟩ := st_at h hk
    obtain ⟨hr1, hr2⟩ := row_len hR
    replace p3 : (w.alloc (.cells #[.slice (some ⟨g, o, none⟩) M.length c] 28)).cell? ⟨g, o + k * 5 + 3, none⟩ = some (.slice B n.l.length cB) := (hbx.cell (p := ⟨g, _, none⟩) hgl).trans p3
    replace hr1 : n.l.length ≤ cB := hr1
    have hs1 : (w.alloc (.cells #[.slice (some ⟨g, o, none⟩) M.length c] 28)).heap.size = w.heap.size + 1 := by simp
    have hbc : (w.alloc (.cells #[.slice (some ⟨g, o, none⟩) M.length c] 28)).cell? ⟨w.heap.size, 0, none⟩ = some (.slice (some ⟨g, o, none⟩) M.length c) := by rw [World.cell?_alloc_at _ _ _ _ rfl]; rfl
    have HI := Lib.hid (fun w2 (hb : Below (w.alloc (.cells #[.slice (some ⟨g, o, none⟩) M.length c] 28)).heap.size _ w2) k n hk ha hb2 => ih k n w2 ((h.below hbx).below hb) hk ha hb2)
    have HX := Lib.hid hbx
    have HR := Lib.hid (show RowK K _ B cB n.l from hR.below hbx)
    have HS := Lib.hid hsum
    have HZ := Lib.hid hsz
    have HKid := Lib.hid hkid
    have h0 : live M (f + 1) (n.l.take 0) = 0 := rfl
    have HE := Lib.hid (show live M (f + 1) (n.l.take n.l.length) = live M (f + 1) n.l by rw [List.take_length])
    have HTk := Lib.hid (fun j x hx => live_take M f n.l j x hx)
    have HL0 := Lib.hid h0
    clear ih h hsum hsz hkid h0 hR hbx hk
    go_enter Try.func71, Try.ntmps71
    go_wp2_with fail
    generalize (w.alloc (.cells #[.slice (some ⟨g, o, none⟩) M.length c] 28)) = W1 at *
    go_loopw [5, 7] (fun s i wr => ∃ j : Nat, j ≤ n.l.length ∧ i = .int .i64 j ∧ s = .int .i64 (live M (f + 1) (n.l.take j)) ∧ Below W1.heap.size W1 wr) (fun _ i _ => n.l.length - (intOf i).toNat)
    case atStart => exact ⟨0, Nat.zero_le _, rfl, by rw [HL0.out], Below.refl _ _⟩
    case round =>
      obtain ⟨j, hj, rfl, rfl, hb⟩ := hrel
      have hbs := hb.size
      have r1 := (hb.cell (p := ⟨w.heap.size, _, none⟩) (show w.heap.size < W1.heap.size by omega)).trans hbc
      have hs := HS.out j
      by_cases hlt : j < n.l.length
      · obtain ⟨x, hx⟩ : ∃ x, n.l[j]? = some x := ⟨_, List.getElem?_eq_getElem hlt⟩
        have hxm := List.mem_of_getElem? hx
        obtain ⟨g', o', rfl, hg', _, k2, k3⟩ := row_at HR.out hx
        replace k2 := (hb.cell (p := ⟨g', _, none⟩) hg').trans k2
        replace k3 := (hb.cell (p := ⟨g', _, none⟩) hg').trans k3
        have hs2 := HS.out (j + 1)
        have ht := HTk.out j x hx
        rw [ht] at hs2
        have hz := HZ.out x hxm
        have HT2 := Lib.hid ht
        clear ht hx
        by_cases hc0 : 0 ≤ x.c
        · obtain ⟨q, hq, hql, hok⟩ := HKid.out x hxm hc0
          have hlo : liveOf M f x = live M f q.l := by simp [liveOf, hc0, itemsOf, hq]
          rw [hlo] at hs2
          have HCall := Lib.hid (fun w2 (h2 : Below W1.heap.size W1 w2) => HI.out w2 h2 x.c.toNat q hq hok hql)
          have HLO := Lib.hid hlo
          have HB := Lib.hid hb
          clear hlo hok hq hb
          generalize hy : x.c = y at *
          obtain ⟨y, rfl⟩ := Int.eq_ofNat_of_zero_le hc0
          rw [Int.toNat_natCast] at HCall
          have e1 : (((y : Nat) : Int) == -1) = false := by rw [beq_eq_false_iff_ne]; omega
          generalize live M f q.l = V at *
          generalize live M (f + 1) (n.l.take j) = S at *
          clear hy hc0
          go_wp2_with fail
          go_region_held3 (fun w' => w'.cell? ⟨w.heap.size, 0, none⟩ = some (.slice (some ⟨g, o, none⟩) M.length c) ∧ w'.cell? ⟨g', o' + j * 3 + 2, none⟩ = some (.int .i64 y)) (first | go_keep | (refine ⟨(hb3.cell ?_).trans ?_, (hb3.cell ?_).trans ?_⟩ <;> first | (simp; omega) | go_keep))
            (first | (go_at_call 71; refine (HCall.out _ (by first | exact HB.out.drew | exact HB.out)).mono ?_; rintro e w3 ⟨rfl, hb3⟩))
          go_wp2
          go_roundw
          case rel => exact ⟨j + 1, by omega, by go_num, by rw [HT2.out, HLO.out, IntWalk.i64_in _ (by omega)], HB.out.drew.trans (hb3.mono hbs)⟩
          case measure => simp [intOf]; omega
        · have hlo : liveOf M f x = if x.c = -1 then x.s else 0 := by simp [liveOf, hc0]
          by_cases hc1 : x.c = -1
          · have hlo : liveOf M f x = x.s := by simp [hlo, hc1]
            rw [hlo] at hs2
            have HLO := Lib.hid hlo
            have HB := Lib.hid hb
            clear hlo hc0 hb
            generalize live M (f + 1) (n.l.take j) = S at *
            rw [hc1] at k3
            generalize x.s = z at *
            clear hc1
            go_wp2
            go_roundw
            case rel => exact ⟨j + 1, by omega, by go_num, by rw [HT2.out, HLO.out], HB.out⟩
            case measure => simp [intOf]; omega
          · have hlo : liveOf M f x = 0 := by simp [hlo, hc1]
            rw [hlo] at hs2
            have HLO := Lib.hid hlo
            have HB := Lib.hid hb
            have hcb : (x.c == -1) = false := by rw [beq_eq_false_iff_ne]; exact hc1
            clear hlo hc1 hb
            generalize live M (f + 1) (n.l.take j) = S at *
            go_wp2
            go_roundw
            case rel => exact ⟨j + 1, by omega, by go_num, by rw [HT2.out, HLO.out]; simp, HB.out⟩
            case measure => simp [intOf]; omega
      · obtain rfl : j = n.l.length := by omega
        rw [HE.out] at hs
        have HB := Lib.hid hb
        clear hb
        go_wp2
        go_ret
        exact ⟨by rw [← HE.out]; rfl, HX.out.trans (HB.out.mono HX.out.size)⟩

set_option maxHeartbeats 1000000 in
theorem liveR_ok (K : Nat → Prop) (w : World) (A : Option Addr) (c : Nat) (M : Tr) (i : Int) (F : Nat) (h : StK K w A c (save M)) (hg : Good M) (hF : Big M F) :
    Calls Try.prog 64 #[.agg #[.slice A M.length c], .int .i64 i] w fun e w' => e = .returned (.tuple #[.int .i64 (liveIn M F i).1, .int .i64 (liveIn M F i).2]) ∧ Below w.heap.size w w' := by
  obtain ⟨hc1, hc2⟩ := st_len h
  have hbx := below_box w (.cells #[.slice A M.length c] 28)
  have hS1 := h.below hbx
  cases hf : find M i with
  | none =>
    rw [show liveIn M F i = (0, 4) by simp [liveIn, hf]]
    have HO := Lib.hid (open_no K _ A c M i hS1 hf)
    have HB := Lib.hid hbx
    clear h hbx hS1 hf hg hF
    go_enter Try.func64, Try.ntmps64
    go_wp2_with (go_at_call 52; refine HO.out.mono ?_; rintro e w1 ⟨rfl, hb1⟩; have HB1 := Lib.hid hb1; clear hb1)
    go_ret2
    exact ⟨rfl, HB.out.trans (HB1.out.mono HB.out.size)⟩
  | some n =>
    rw [show liveIn M F i = (live M F n.l, 0) by simp [liveIn, hf]]
    obtain ⟨h0, hi⟩ := find_some hf
    obtain ⟨k, rfl⟩ := Int.eq_ofNat_of_zero_le h0
    rw [Int.toNat_natCast] at hi
    obtain ⟨d, D, hr, hD⟩ := hF
    have HO := Lib.hid (open_yes K _ A c M k n hS1 hf)
    have HB := Lib.hid hbx
    have HL := Lib.hid (fun w2 (hb : Below (w.alloc (.cells #[.slice A M.length c] 28)).heap.size _ w2) => liveR_walk M hg.len A c K F k n w2 (hS1.below hb) hi (live_ok hg hr F k n hi (by omega)).1 (hg.node k n hi).len)
    have hs1 : (w.alloc (.cells #[.slice A M.length c] 28)).heap.size = w.heap.size + 1 := by simp
    have hbc : (w.alloc (.cells #[.slice A M.length c] 28)).cell? ⟨w.heap.size, 0, none⟩ = some (.slice A M.length c) := by rw [World.cell?_alloc_at _ _ _ _ rfl]; rfl
    clear h hbx hS1 hf hi hg h0 hr hD
    generalize live M F n.l = V at *
    go_enter Try.func64, Try.ntmps64
    go_wp2_with (go_at_call 52; fail)
    generalize (w.alloc (.cells #[.slice A M.length c] 28)) = W1 at *
    refine HO.out.mono ?_
    rintro e w1 ⟨rfl, hb1⟩
    replace hbc := (hb1.cell (p := ⟨w.heap.size, _, none⟩) (show w.heap.size < W1.heap.size by omega)).trans hbc
    have HB1 := Lib.hid hb1
    have hbs := hb1.size
    clear hb1
    go_wp2_with (go_at_call 71; refine (HL.out _ HB1.out).mono ?_; rintro e w2 ⟨rfl, hb2⟩; have HB2 := Lib.hid (HB1.out.trans (hb2.mono hbs)); clear hb2)
    go_ret2
    exact ⟨rfl, HB.out.trans (HB2.out.mono HB.out.size)⟩

end Ne
end Go.Proofs.Ytllmddhahpegmaa
namespace Go.Proofs.Ytllmddhahpegmaa
open Go.RowKit
namespace Ne

def pw (j : Nat) : Int := ((2 ^ j : Nat) : Int)

theorem pw_all (al : Int) : ([1, 2, 4, 8, 16, 32, 64, 128, 256, 512, 1024, 2048, 4096] : List Int).contains al = true ↔ ∃ j, j < 13 ∧ pw j = al := by
  constructor
  · intro h
    simp at h
    rcases h with h | h | h | h | h | h | h | h | h | h | h | h | h
    · exact ⟨0, by omega, h.symm⟩
    · exact ⟨1, by omega, h.symm⟩
    · exact ⟨2, by omega, h.symm⟩
    · exact ⟨3, by omega, h.symm⟩
    · exact ⟨4, by omega, h.symm⟩
    · exact ⟨5, by omega, h.symm⟩
    · exact ⟨6, by omega, h.symm⟩
    · exact ⟨7, by omega, h.symm⟩
    · exact ⟨8, by omega, h.symm⟩
    · exact ⟨9, by omega, h.symm⟩
    · exact ⟨10, by omega, h.symm⟩
    · exact ⟨11, by omega, h.symm⟩
    · exact ⟨12, by omega, h.symm⟩
  · rintro ⟨j, hj, rfl⟩
    have : j = 0 ∨ j = 1 ∨ j = 2 ∨ j = 3 ∨ j = 4 ∨ j = 5 ∨ j = 6 ∨ j = 7 ∨ j = 8 ∨ j = 9 ∨ j = 10 ∨ j = 11 ∨ j = 12 := by omega
    rcases this with h | h | h | h | h | h | h | h | h | h | h | h | h <;> subst h <;> decide

theorem pw_le (j : Nat) (h : j < 13) : 1 ≤ pw j ∧ pw j ≤ 4096 := by
  have h1 : 2 ^ j ≤ 2 ^ 12 := Nat.pow_le_pow_right (by omega) (by omega)
  have h2 : 0 < 2 ^ j := Nat.pow_pos (by omega)
  unfold pw
  omega

theorem pw_succ (j : Nat) : pw (j + 1) = 2 * pw j := by
  unfold pw
  rw [Nat.pow_succ]
  omega

set_option maxHeartbeats 1000000 in
theorem power_ok (w : World) (al : Int) :
    Calls Try.prog 69 #[.int .i64 al] w fun e w' => e = .returned (.bool (([1, 2, 4, 8, 16, 32, 64, 128, 256, 512, 1024, 2048, 4096] : List Int).contains al)) ∧ w = w' := by
  have HA := Lib.hid (pw_all al)
  generalize ([1, 2, 4, 8, 16, 32, 64, 128, 256, 512, 1024, 2048, 4096] : List Int).contains al = b at *
  go_enter Try.func69, Try.ntmps69
  go_wp2
  go_loop [3] (fun k => ∃ j : Nat, j ≤ 13 ∧ k = .int .i64 (pw j) ∧ ∀ i, i < j → pw i ≠ al) (fun k => 8193 - (intOf k).toNat)
  case atStart => exact ⟨0, by omega, rfl, fun i hi => by omega⟩
  case round =>
    obtain ⟨j, hj, rfl, hn⟩ := hrel
    have HN := Lib.hid hn
    clear hn
    by_cases h13 : j = 13
    · have h8 : pw j = 8192 := by rw [h13]; rfl
      have hb : b = false := by
        cases b with
        | false => rfl
        | true => obtain ⟨i, hi, he⟩ := HA.out.1 rfl; exact absurd he (HN.out i (by omega))
      subst hb
      rw [h8]
      clear h8
      go_wp2
      go_ret
      exact ⟨rfl, rfl⟩
    · obtain ⟨h1, h2⟩ := pw_le j (by omega)
      have HS := Lib.hid (pw_succ j)
      generalize hq : pw j = q at *
      have HQ := Lib.hid hq
      clear hq
      by_cases hqa : q = al
      · have hb : b = true := HA.out.2 ⟨j, by omega, by rw [HQ.out, hqa]⟩
        have e1 : (q == al) = true := by rw [beq_iff_eq]; exact hqa
        subst hb
        clear hqa
        go_wp2
        go_ret
        exact ⟨rfl, rfl⟩
      · have HE := Lib.hid hqa
        have e1 : (q == al) = false := by rw [beq_eq_false_iff_ne]; exact hqa
        clear hqa
        go_wp2
        go_round
        case rel => exact ⟨j + 1, by omega, by rw [HS.out], fun i hi => by
          by_cases he : i = j
          · rw [he, HQ.out]; exact HE.out
          · exact HN.out i (by omega)⟩
        case measure => simp [intOf]; omega
end Ne
end Go.Proofs.Ytllmddhahpegmaa
