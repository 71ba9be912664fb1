/- The law's asks: the tree and the reference answer alike. The reference: a state that gets an arena more. The reference: Begin. -/
import Derived.Test.YtllmddhahpegmaaM19
import Derived.Test.YtllmddhahpegmaaM22
import Derived.Test.YtllmddhahpegmaaM15
import Derived.Deep.RegionHeld3
namespace Go.Proofs.Ytllmddhahpegmaa
open Go.RowKit
namespace Ne

theorem bel_mark (w : World) (own : Nat → Option Nat) (t : Nat) (M : Tr) (i : Int) (h : Tree w own t M) (hg : Good M) :
    Calls Try.prog 19 #[.pointer (some ⟨t, 0, none⟩), .int .i64 i] w fun e w' => e = .returned (.tuple #[.int .i64 (mark M i).1, .int .i64 (mark M i).2]) ∧ Below w.heap.size w w' := by
  obtain ⟨g, cap, cs, h⟩ := h
  refine (mark_tree w own t g cap cs M i h hg).mono ?_
  rintro e w' ⟨rfl, rfl⟩
  exact ⟨rfl, Below.refl _ _⟩
theorem bel_room (w : World) (own : Nat → Option Nat) (t : Nat) (M : Tr) (i : Int) (h : Tree w own t M) (hg : Good M) :
    Calls Try.prog 21 #[.pointer (some ⟨t, 0, none⟩), .int .i64 i] w fun e w' => e = .returned (.tuple #[.int .i64 (roomOf M i).1, .int .i64 (roomOf M i).2]) ∧ Below w.heap.size w w' := by
  obtain ⟨g, cap, cs, h⟩ := h
  refine (room_tree w own t g cap cs M i h hg).mono ?_
  rintro e w' ⟨rfl, k, rfl⟩
  exact ⟨rfl, below_drewN (Below.refl _ _) _⟩
theorem bel_live (w : World) (own : Nat → Option Nat) (t : Nat) (M : Tr) (i : Int) (F : Nat) (h : Tree w own t M) (hg : Good M) (hF : Big M F) :
    Calls Try.prog 17 #[.pointer (some ⟨t, 0, none⟩), .int .i64 i] w fun e w' => e = .returned (.tuple #[.int .i64 (liveIn M F i).1, .int .i64 (liveIn M F i).2]) ∧ Below w.heap.size w w' := by
  obtain ⟨g, cap, cs, h⟩ := h
  obtain ⟨d, D, hr, hD⟩ := hF
  exact live_tree w own t g cap cs M i F h hg fun n hn => (live_ok hg hr F i.toNat n (find_some hn).2 (by omega)).1

/-- A chain that was returned. -/
def ChainV (M : Tr) (i : Int) (l : List Nat) (x : Int) : Prop := (find M i = none ∧ l = [] ∧ x = 4) ∨ (0 ≤ i ∧ Chn M i.toNat l ∧ x = 0)
theorem ChainV.unique {M : Tr} {i : Int} {l l' : List Nat} {x x' : Int} (h : ChainV M i l x) (h' : ChainV M i l' x') : l = l' ∧ x = x' := by
  have no : ∀ {l : List Nat}, find M i = none → 0 ≤ i → Chn M i.toNat l → False := fun {l} h1 h0 h2 => by
    obtain ⟨n, hn⟩ := h2.opn
    unfold find at h1
    rw [if_neg (by omega), hn] at h1
    cases h1
  rcases h with ⟨h1, h2, h3⟩ | ⟨h1, h2, h3⟩
  · rcases h' with ⟨_, k2, k3⟩ | ⟨k1, k2, k3⟩
    · exact ⟨h2.trans k2.symm, h3.trans k3.symm⟩
    · exact (no h1 k1 k2).elim
  · rcases h' with ⟨k1, _, _⟩ | ⟨k1, k2, k3⟩
    · exact (no k1 h1 h2).elim
    · exact ⟨h2.unique k2, h3.trans k3.symm⟩
theorem ChainOf.v {M : Tr} {i : Int} {B : Nat} {e : Ending} {w' : World} (h : ChainOf M i B e w') : ∃ A c l x, e = .returned (.tuple #[.slice A l.length c, .int .i64 x]) ∧ ChainV M i l x ∧ w'.ownsRow B 3 1 (.slice A l.length c) l.length (nints l) := by
  rcases h with ⟨h1, h2⟩ | ⟨A, c, l, h0, h1, h2, h3⟩
  · exact ⟨none, 0, [], 4, h2, .inl ⟨h1, rfl, rfl⟩, World.ownsRow_nil _ _ _ _⟩
  · exact ⟨A, c, l, 0, h2, .inr ⟨h0, h1, rfl⟩, h3⟩

theorem cell_keep {w1 w2 : World} (hb : Below w1.heap.size w1 w2) {b : Nat} {v : Value} (h : w1.cell? ⟨b, 0, none⟩ = some v) : w2.cell? ⟨b, 0, none⟩ = some v :=
  (hb.cell (p := ⟨b, 0, none⟩) (World.block_lt_of_cell? w1 _ h)).trans h

def AskS (w8 : World) (b : Nat) (v : Value) (w' : World) : Prop := Below w8.heap.size w8 w' ∧ w'.cell? ⟨b, 0, none⟩ = some v
theorem AskS.below {w8 w1 w2 : World} {b : Nat} {v : Value} (h : AskS w8 b v w1) (hb : Below w1.heap.size w1 w2) : AskS w8 b v w2 :=
  ⟨h.1.trans (hb.mono h.1.size), cell_keep hb h.2⟩

set_option maxRecDepth 100000 in
set_option maxHeartbeats 1000000 in
theorem asks_ok (w : World) (own : Ow) (t : Nat) (M : Tr) (k : Int) (F : Nat) (hT : Tree w own t M) (hfo : Fresh own w) (hg : Good M) (hF : Big M F) (A : Option Addr) (c : Nat) (hS : StK (fun _ => True) w A c (save M)) :
    Calls Try.prog 48 #[.pointer (some ⟨t, 0, none⟩), .agg #[.slice A M.length c], .int .i64 k] w fun e w' => e = .returned (.bool true) ∧ Below w.heap.size w w' := by
  obtain ⟨hc1, hc2⟩ := st_len hS
  have HM1 := Lib.hid (fun w2 (hb : Below w.heap.size w w2) => bel_mark w2 own t M k (hT.below hb) hg)
  have HM2 := Lib.hid (fun w2 (hb : Below w.heap.size w w2) => markR_ok _ w2 A c M k (hS.below hb) hg)
  have HR1 := Lib.hid (fun w2 (hb : Below w.heap.size w w2) => bel_room w2 own t M k (hT.below hb) hg)
  have HR2 := Lib.hid (fun w2 (hb : Below w.heap.size w w2) => roomR_ok _ w2 A c M k (hS.below hb) hg)
  have HL1 := Lib.hid (fun w2 (hb : Below w.heap.size w w2) => bel_live w2 own t M k F (hT.below hb) hg hF)
  have HL2 := Lib.hid (fun w2 (hb : Below w.heap.size w w2) => liveR_ok _ w2 A c M k F (hS.below hb) hg hF)
  have HC1 := Lib.hid (fun w2 (hb : Below w.heap.size w w2) => chain_ok w2 own t M k (hT.below hb) hg)
  have HC2 := Lib.hid (fun w2 (hb : Below w.heap.size w w2) => chainR_ok _ w2 A c M k (hS.below hb) hg)
  have HB1 := Lib.hid (fun w2 (hb : Below w.heap.size w w2) => below_ok w2 own t M k (hT.below hb) (hfo.keeps (.of_below own hb)) hg)
  have HB2 := Lib.hid (fun w2 (hb : Below w.heap.size w w2) => belowR_ok _ w2 A c M k (hS.below hb) hg)
  clear hT hfo hg hF hS
  generalize (mark M k).1 = m1 at *
  generalize (mark M k).2 = m2 at *
  generalize (roomOf M k).1 = r1 at *
  generalize (roomOf M k).2 = r2 at *
  generalize (liveIn M F k).1 = l1 at *
  generalize (liveIn M F k).2 = l2 at *
  have hbx := below_box w (.cells #[.slice A M.length c] 28)
  have hbc : (w.alloc (.cells #[.slice A M.length c] 28)).cell? ⟨w.heap.size, 0, none⟩ = some (.slice A M.length c) := by rw [World.cell?_alloc_at _ _ _ _ rfl]; rfl
  have hs0 : (w.alloc (.cells #[.slice A M.length c] 28)).heap.size = w.heap.size + 1 := by simp
  have HX := Lib.hid hbx
  clear hbx
  have g1 : (m1 != m1) = false := by simp
  have g2 : (m2 != m2) = false := by simp
  have g3 : (r1 != r1) = false := by simp
  have g4 : (r2 != r2) = false := by simp
  have g5 : (l1 == l1) = true := by simp
  have g6 : (l2 == l2) = true := by simp
  go_enter Try.func48, Try.ntmps48
  go_wp2_with (go_at_call 19; fail)
  generalize (w.alloc (.cells #[.slice A M.length c] 28)) = W0 at *
  refine (HM1.out _ HX.out).mono ?_
  rintro e w1 ⟨rfl, hb1⟩
  have hs1 := hb1.size
  have hbc1 := (hb1.cell (p := ⟨w.heap.size, 0, none⟩) (show w.heap.size < W0.heap.size by omega)).trans hbc
  have HX1 := Lib.hid (HX.out.trans (hb1.mono HX.out.size))
  clear hb1 hbc
  go_wp2_with (go_at_call 62; fail)
  refine (HM2.out _ HX1.out).mono ?_
  rintro e w2 ⟨rfl, hb2⟩
  have hs2 := hb2.size
  have hbc2 := (hb2.cell (p := ⟨w.heap.size, 0, none⟩) (show w.heap.size < w1.heap.size by omega)).trans hbc1
  have HX2 := Lib.hid (HX1.out.trans (hb2.mono HX1.out.size))
  clear hb2 hbc1
  go_wp2_with (go_at_call 21; fail)
  refine (HR1.out _ HX2.out).mono ?_
  rintro e w3 ⟨rfl, hb3⟩
  have hs3 := hb3.size
  have hbc3 := (hb3.cell (p := ⟨w.heap.size, 0, none⟩) (show w.heap.size < w2.heap.size by omega)).trans hbc2
  have HX3 := Lib.hid (HX2.out.trans (hb3.mono HX2.out.size))
  clear hb3 hbc2
  go_wp2_with (go_at_call 63; fail)
  refine (HR2.out _ HX3.out).mono ?_
  rintro e w4 ⟨rfl, hb4⟩
  have hs4 := hb4.size
  have hbc4 := (hb4.cell (p := ⟨w.heap.size, 0, none⟩) (show w.heap.size < w3.heap.size by omega)).trans hbc3
  have HX4 := Lib.hid (HX3.out.trans (hb4.mono HX3.out.size))
  clear hb4 hbc3
  go_wp2_with (go_at_call 17; fail)
  refine (HL1.out _ HX4.out).mono ?_
  rintro e w5 ⟨rfl, hb5⟩
  have hs5 := hb5.size
  have hbc5 := (hb5.cell (p := ⟨w.heap.size, 0, none⟩) (show w.heap.size < w4.heap.size by omega)).trans hbc4
  have HX5 := Lib.hid (HX4.out.trans (hb5.mono HX4.out.size))
  clear hb5 hbc4
  go_wp2_with (go_at_call 64; fail)
  refine (HL2.out _ HX5.out).mono ?_
  rintro e w6 ⟨rfl, hb6⟩
  have hs6 := hb6.size
  have hbc6 := (hb6.cell (p := ⟨w.heap.size, 0, none⟩) (show w.heap.size < w5.heap.size by omega)).trans hbc5
  have HX6 := Lib.hid (HX5.out.trans (hb6.mono HX5.out.size))
  clear hb6 hbc5
  go_wp2_with (go_at_call 27; fail)
  refine (HC1.out _ HX6.out).mono ?_
  rintro e w7 ⟨hch, hb7⟩
  obtain ⟨A7, c7, l7, x7, rfl, hv7, hr7⟩ := hch.v
  have hs7 := hb7.size
  have hbc7 := (hb7.cell (p := ⟨w.heap.size, 0, none⟩) (show w.heap.size < w6.heap.size by omega)).trans hbc6
  have HX7 := Lib.hid (HX6.out.trans (hb7.mono HX6.out.size))
  have HV7 := Lib.hid (And.intro hv7 hr7)
  clear hb7 hbc6 hv7 hr7 hch
  go_wp2_with (go_at_call 33; fail)
  refine (HC2.out _ HX7.out).mono ?_
  rintro e w8 ⟨hch, hb8⟩
  obtain ⟨A8, c8, l8, x8, rfl, hv8, hr8⟩ := hch.v
  obtain ⟨rfl, rfl⟩ := HV7.out.1.unique hv8
  have hs8 := hb8.size
  have hbc8 := (hb8.cell (p := ⟨w.heap.size, 0, none⟩) (show w.heap.size < w7.heap.size by omega)).trans hbc7
  have HX8 := Lib.hid (HX7.out.trans (hb8.mono HX7.out.size))
  have hr7' := row_below HV7.out.2 hb8
  have HS1 := Lib.hid (fun w2 (hb : Below w8.heap.size w8 w2) => sameR_yes w2 _ _ A7 A8 c7 c8 l7 (row_below hr7' hb) (row_below hr8 hb))
  clear hb8 hbc7 hv8 hr8 hch hr7' HV7
  have g7 : (x7 == x7) = true := by simp
  generalize l7.length = L7 at *
  go_wp2_with fail
  have hW : w.heap.size < w8.heap.size := by omega
  have S0 : AskS w8 w.heap.size (.slice A M.length c) w8.drew := ⟨(Below.refl _ _).drew, hbc8⟩
  unfold AskS at S0
  have hb8c := HX8.out.size
  go_region_held3 (fun w' => Below w8.heap.size w8 w' ∧ w'.cell? ⟨w.heap.size, 0, none⟩ = some (.slice A M.length c))
    (first | go_keep | exact S0 | exact AskS.below (by assumption) hb12 | exact AskS.below (by assumption) hb11 | exact AskS.below (by assumption) hb10 | exact AskS.below (by assumption) hb9)
    (first
    | (go_at_call_of 65 (Value.slice A7 L7 c7); refine (HS1.out _ (And.left (by assumption))).mono ?_; rintro e w9 ⟨rfl, hb9⟩)
    | (go_at_call 24; refine (HB1.out _ (HX8.out.trans (Below.mono (And.left (by assumption)) hb8c))).mono ?_; rintro e w10 ⟨⟨A10, c10, l10, rfl, hu10, hr10⟩, hb10⟩; have HU10 := Lib.hid hu10; clear hu10; have HR10 := Lib.hid hr10; clear hr10; try (have HR11 := Lib.hid (row_below HR11.out hb10)))
    | (go_at_call 66; refine (HB2.out _ (HX8.out.trans (Below.mono (And.left (by assumption)) hb8c))).mono ?_; rintro e w11 ⟨⟨A11, c11, l11, rfl, hu11, hr11⟩, hb11⟩; have HU11 := Lib.hid hu11; clear hu11; have HR11 := Lib.hid hr11; clear hr11; try (have HR10 := Lib.hid (row_below HR10.out hb11)))
    | (go_at_call 65; have hll := HU10.out.unique HU11.out; subst hll; refine (sameR_yes _ _ _ A10 A11 c10 c11 l10 (by first | exact HR10.out) (by first | exact HR11.out)).mono ?_; rintro e w12 ⟨rfl, hb12⟩))
  go_wp2
  go_ret
  exact ⟨rfl, HX8.out.trans (Below.mono (And.left (by assumption)) hb8c)⟩
end Ne
end Go.Proofs.Ytllmddhahpegmaa
namespace Go.Proofs.Ytllmddhahpegmaa
open Go.RowKit
namespace Ne

/-- An arena that begins. -/
def newZ (p a s : Int) : SZ := ⟨⟨p, a, s, [], false⟩, none, 0⟩

theorem Cop.putNew {K : Nat → Prop} {w : World} {g cap : Nat} {cur : Array Value} {zs : List SZ} {i : Nat} (h : Cop K w g cap cur zs) (hi : i < zs.length) (p a s : Int) :
    ∃ cur', Cop K (put5 w g i (.int .i64 p) (.int .i64 a) (.int .i64 s) (.slice none 0 0) (.bool false)) g cap cur' (zs.set i (newZ p a s)) := by
  have hsz := h.size
  have hln := h.len
  obtain ⟨cur', h1, h2, h3, h4⟩ := put5_at (i := i) (.int .i64 p) (.int .i64 a) (.int .i64 s) (.slice none 0 0) (.bool false) h.row (by omega)
  refine ⟨cur', h.put hi h1 h2 h3 h4 (World.ownsRow_nil _ _ _ _) (fun b hb => by cases hb) (fun j y _ _ b hb => by cases hb) fun j y b _ hj hb => ?_⟩
  exact put5_far _ _ _ _ _ _ _ _ _ (h.not_row hj hb)

theorem Cop.owns {K : Nat → Prop} {w : World} {g cap : Nat} {cur : Array Value} {zs : List SZ} (h : Cop K w g cap cur zs) :
    w.ownsRow 0 35 5 (.slice (some ⟨g, 0, none⟩) zs.length cap) zs.length (szcells zs) := by
  have hsz := h.size
  have hln := h.len
  have hsl := szcells_length zs
  refine ⟨szcells_length zs, .inr ⟨g, cap, cur, rfl, Nat.zero_le _, h.row, h.len, h.most, h.size, List.ext_getElem? fun m => ?_⟩⟩
  rw [List.getElem?_take]
  by_cases hm : m < zs.length * 5
  · rw [if_pos hm]
    obtain ⟨z, hz⟩ : ∃ z, zs[m / 5]? = some z := ⟨_, List.getElem?_eq_getElem (by omega)⟩
    obtain ⟨a0, a1, a2, a3, a4⟩ := h.cells _ z hz
    obtain ⟨b0, b1, b2, b3, b4⟩ := szcells_get zs _ z hz
    have hc : m = m / 5 * 5 ∨ m = m / 5 * 5 + 1 ∨ m = m / 5 * 5 + 2 ∨ m = m / 5 * 5 + 3 ∨ m = m / 5 * 5 + 4 := by omega
    generalize m / 5 = q at *
    rcases hc with rfl | rfl | rfl | rfl | rfl
    · rw [b0, ← a0]; simp
    · rw [b1, ← a1]; simp
    · rw [b2, ← a2]; simp
    · rw [b3]; unfold SZ.val at a3; rw [← a3]; simp
    · rw [b4, ← a4]; simp
  · rw [if_neg hm, List.getElem?_eq_none (by omega)]

theorem cells_of_owns {w : World} {B g cap : Nat} {zs : List SZ} (h : w.ownsRow B 35 5 (.slice (some ⟨g, 0, none⟩) zs.length cap) zs.length (szcells zs)) :
    ∃ cur, w.heap[g]? = some (.cells cur 35 (0, 0)) ∧ cur.size = cap * 5 ∧ zs.length ≤ cap ∧ cap ≤ maxLen ∧ ∀ (i : Nat) (z : SZ), zs[i]? = some z → cur[i * 5]? = some (.int .i64 z.x.p) ∧ cur[i * 5 + 1]? = some (.int .i64 z.x.a) ∧ cur[i * 5 + 2]? = some (.int .i64 z.x.s) ∧ cur[i * 5 + 3]? = some z.val ∧ cur[i * 5 + 4]? = some (.bool z.x.cl) := by
  rcases h.2 with ⟨h2, _⟩ | ⟨g1, cap1, cur, h1, hb, hg, hlc, hcm, hcs, htake⟩
  · simp at h2
  · have e1 : g1 = g ∧ cap1 = cap := by simp at h1; exact ⟨h1.1.symm, h1.2.symm⟩
    obtain ⟨rfl, rfl⟩ := e1
    refine ⟨cur, hg, hcs, hlc, hcm, fun i z hz => ?_⟩
    have hj : i < zs.length := (List.getElem?_eq_some_iff.1 hz).1
    have hcell : ∀ m u, m < 5 → (szcells zs)[i * 5 + m]? = some u → cur[i * 5 + m]? = some u := by
      intro m u hm hu
      rw [← htake, List.getElem?_take, if_pos (by omega)] at hu
      simpa using hu
    obtain ⟨k0, k1, k2, k3, k4⟩ := szcells_get zs i z hz
    exact ⟨hcell 0 _ (by omega) k0, hcell 1 _ (by omega) k1, hcell 2 _ (by omega) k2, hcell 3 _ (by omega) k3, hcell 4 _ (by omega) k4⟩

/-- An arena more, behind append to the row of arenas. -/
theorem Cop.app {K : Nat → Prop} {w w2 w1 : World} {g cap : Nat} {cur : Array Value} {zs : List SZ} (h : Cop K w g cap cur zs) {p a s : Int} {g6 c6 : Nat}
    (h2 : Below w.heap.size w w2) (hown : w1.ownsRow 0 35 5 (.slice (some ⟨g6, 0, none⟩) (zs.length + 1) c6) (zs.length + 1) (szcells zs ++ (newZ p a s).cells))
    (hg : w2.grownBy w1 (some g)) (hat : some g = some g6 ∨ g6 = w2.heap.size) (hK : ∀ b, w.heap.size ≤ b → K b) :
    ∃ cur', Cop K w1 g6 c6 cur' (zs ++ [newZ p a s]) := by
  have h2s := h2.size
  have e1 : (zs ++ [newZ p a s]).length = zs.length + 1 := by simp
  have e2 : szcells (zs ++ [newZ p a s]) = szcells zs ++ (newZ p a s).cells := by simp [szcells]
  rw [← e1, ← e2] at hown
  obtain ⟨cur6, hrow, hsz, hln, hmost, hcells⟩ := cells_of_owns hown
  have hold : ∀ (j : Nat) (y : SZ) (b : Nat), zs[j]? = some y → y.blk = some b → w1.heap[b]? = w.heap[b]? := fun j y b hj hb => by
    have hl := ((h.rows j y hj).lt b hb).2
    rw [hg.block b (by omega) (fun e => h.not_row hj hb (by injection e)), h2.block b hl]
  have hg6 : K g6 := by
    rcases hat with e | e
    · injection e with e
      rw [← e]; exact h.low
    · exact hK _ (by omega)
  refine ⟨cur6, hg6, hrow, hsz, hln, hmost, hcells, fun i z hz => ?_, fun i z b hz hb => ?_, fun i j a b hne ha hb k hak hbk => ?_⟩
  · rcases snoc_get hz with ⟨_, hz⟩ | ⟨_, rfl⟩
    · exact row_same (h.rows i z hz) fun b hb => hold i z b hz hb
    · exact World.ownsRow_nil _ _ _ _
  · rcases snoc_get hz with ⟨_, hz⟩ | ⟨_, rfl⟩
    · exact h.own i z b hz hb
    · cases hb
  · rcases snoc_get ha with ⟨_, ha⟩ | ⟨_, rfl⟩
    · rcases snoc_get hb with ⟨_, hb⟩ | ⟨_, rfl⟩
      · exact h.apart i j a b hne ha hb k hak hbk
      · cases hbk
    · cases hak
end Ne
end Go.Proofs.Ytllmddhahpegmaa
namespace Go.Proofs.Ytllmddhahpegmaa
open Go.RowKit
namespace Ne

theorem find_lt_hole {M : Tr} {j : Nat} (hj : j < hole M) : ∃ n, find M j = some n := by
  have hl : j < M.length := Nat.lt_of_lt_of_le hj (hole_le M)
  have := List.not_of_lt_findIdx hj
  cases e : M[j] with
  | none => simp [e] at this
  | some n => exact ⟨n, by rw [find, if_neg (by omega), Int.toNat_natCast, List.getElem?_eq_getElem hl, e]; rfl⟩

theorem find_hole (M : Tr) : find M (hole M) = none := by
  rw [find, if_neg (by omega), Int.toNat_natCast]
  cases e : M[hole M]? with
  | none => rfl
  | some o =>
    cases o with
    | none => rfl
    | some n => exact (hole_at e).elim
set_option maxHeartbeats 2000000 in
theorem beginR_err (K : Nat → Prop) (w : World) (g cap : Nat) (cur : Array Value) (zs : List SZ) (M : Tr) (i sz al : Int) (hC : Cop K w g cap cur zs) (hs : zs.map (·.x) = save M) (hg : Good M) (he : (give M i sz al).2 ≠ 0) :
    Calls Try.prog 45 #[.agg #[.slice (some ⟨g, 0, none⟩) M.length cap], .int .i64 i, .int .i64 sz, .int .i64 al] w fun e w' => RefOut K w M (fun v => e = .returned (.tuple #[v, .int .i64 0, .int .i64 (give M i sz al).2])) w' ∧ Below w.heap.size w w' := by
  have hsz := aW_size w (some ⟨g, 0, none⟩) cap M
  have hbx := aW_box w (some ⟨g, 0, none⟩) cap M
  have hre := aW_res w (some ⟨g, 0, none⟩) cap M
  have hcl := lt_of_heap hC.row
  have HGv := Lib.hid (giveR_ok K _ (some ⟨g, 0, none⟩) cap M i sz al ((hC.below (aW_below w (some ⟨g, 0, none⟩) cap M)).stK hs) hg)
  unfold GiveR at HGv
  have HB := Lib.hid (aW_below w (some ⟨g, 0, none⟩) cap M)
  have H := Lib.hid (And.intro hC hs)
  have hE : ((give M i sz al).2 != 0) = true := by rw [bne_iff_ne]; exact he
  clear hC hs hg he
  generalize gItem M i sz al = it at *
  generalize (give M i sz al).2 = E at *
  go_enter Try.func45, Try.ntmps45
  go_wp2_with (go_at_call 58; fail)
  have haW : (w.alloc (.cells #[.slice (some ⟨g, 0, none⟩) M.length cap] 28)).alloc (.cells #[.slice none 0 0] 28) = aW w (some ⟨g, 0, none⟩) cap M := rfl
  rw [haW]
  generalize aW w (some ⟨g, 0, none⟩) cap M = W2 at *
  clear haW
  refine HGv.out.mono ?_
  rintro e w1 ⟨rfl, hb1⟩
  have hbs := hb1.size
  replace hbx := (hb1.block _ (show w.heap.size < W2.heap.size by omega)).trans hbx
  replace hre := (hb1.block _ (show w.heap.size + 1 < W2.heap.size by omega)).trans hre
  obtain ⟨x0, x1⟩ := one_cell hbx
  obtain ⟨y0, y1⟩ := one_cell hre
  have HR := Lib.hid (And.intro hb1 (And.intro hbx hre))
  clear hb1 hbx hre
  have x2 := ((below_box w1 (.cells #[.int .i64 it.a, .int .i64 it.s, .int .i64 it.c] 54)).cell (p := ⟨w.heap.size, 0, none⟩) (show w.heap.size < w1.heap.size by omega)).trans x0
  have y2 := ((below_box w1 (.cells #[.int .i64 it.a, .int .i64 it.s, .int .i64 it.c] 54)).cell (p := ⟨w.heap.size + 1, 0, none⟩) (show w.heap.size + 1 < w1.heap.size by omega)).trans y0
  have y3 := ((below_box w1 (.cells #[.int .i64 it.a, .int .i64 it.s, .int .i64 it.c] 54)).frozen (p := ⟨w.heap.size + 1, 0, none⟩) (show w.heap.size + 1 < w1.heap.size by omega)).trans y1
  go_wp2
  have h8 : (w1.alloc (.cells #[.int .i64 it.a, .int .i64 it.s, .int .i64 it.c] 54)).heap[w.heap.size + 1]? = some (.cells #[.slice none 0 0] 28 (0, 0)) := by rw [alloc_old _ _ _ (by omega)]; exact HR.out.2.2
  have h9 := setCell_at _ _ 0 _ _ (.slice (some ⟨g, 0, none⟩) M.length cap) h8
  obtain ⟨q0, _⟩ := one_cell h9
  have hb9 : Below w.heap.size w ((w1.alloc (.cells #[.int .i64 it.a, .int .i64 it.s, .int .i64 it.c] 54)).setCell ⟨w.heap.size + 1, 0, none⟩ (.slice (some ⟨g, 0, none⟩) M.length cap)) :=
    (HB.out.trans ((HR.out.1.trans ((below_box _ _).mono hbs)).mono HB.out.size)).setCell (by show w.heap.size ≤ w.heap.size + 1; omega) _
  refine bodyPost_ret (v := .tuple #[.agg #[.slice (some ⟨g, 0, none⟩) M.length cap], .int .i64 0, .int .i64 E]) (by simp [results, Try.results45, go_sem, q0]) rfl ⟨⟨g, cap, cur, zs, rfl, ?_, H.out.2⟩, hb9⟩
  exact H.out.1.keep fun b hb hl => ⟨hb9.block b hl, .inl hb⟩

set_option maxHeartbeats 2000000 in
theorem beginR_full (K : Nat → Prop) (w : World) (g cap : Nat) (cur : Array Value) (zs : List SZ) (M : Tr) (i sz al : Int) (hC : Cop K w g cap cur zs) (hs : zs.map (·.x) = save M) (hg : Good M) (he : (give M i sz al).2 = 0) (hh : hole M = 64) :
    Calls Try.prog 45 #[.agg #[.slice (some ⟨g, 0, none⟩) M.length cap], .int .i64 i, .int .i64 sz, .int .i64 al] w fun e w' => RefOut K w M (fun v => e = .returned (.tuple #[v, .int .i64 0, .int .i64 5])) w' ∧ Below w.heap.size w w' := by
  have hsz := aW_size w (some ⟨g, 0, none⟩) cap M
  have hbx := aW_box w (some ⟨g, 0, none⟩) cap M
  have hre := aW_res w (some ⟨g, 0, none⟩) cap M
  have hcl := lt_of_heap hC.row
  have hm64 := hg.len
  have hle := hole_le M
  have hC2 := hC.below (aW_below w (some ⟨g, 0, none⟩) cap M)
  have HGv := Lib.hid (giveR_ok K _ (some ⟨g, 0, none⟩) cap M i sz al (hC2.stK hs) hg)
  unfold GiveR at HGv
  have hit : gItem M i sz al = ⟨(give M i sz al).1, sz, -1⟩ := by unfold gItem; rw [if_pos he]
  rw [hit, he] at HGv
  have HOy := Lib.hid (fun w2 (hb : Below (aW w (some ⟨g, 0, none⟩) cap M).heap.size (aW w (some ⟨g, 0, none⟩) cap M) w2) (j : Nat) (hj : j < hole M) => open_yes K w2 (some ⟨g, 0, none⟩) cap M j (find_lt_hole hj).choose ((hC2.below hb).stK hs) (find_lt_hole hj).choose_spec)
  have HOn := Lib.hid (fun w2 (hb : Below (aW w (some ⟨g, 0, none⟩) cap M).heap.size (aW w (some ⟨g, 0, none⟩) cap M) w2) => open_no K w2 (some ⟨g, 0, none⟩) cap M (hole M) ((hC2.below hb).stK hs) (find_hole M))
  have HB := Lib.hid (aW_below w (some ⟨g, 0, none⟩) cap M)
  have H := Lib.hid (And.intro hC hs)
  have hE : (((hole M : Nat) : Int) == 64) = true := by rw [hh]; rfl
  have hh2 : hole M ≤ 64 := by omega
  clear hC hC2 hs hg he hit hh
  generalize (give M i sz al).1 = U at *
  generalize hole M = hx at *
  go_enter Try.func45, Try.ntmps45
  go_wp2_with (go_at_call 58; fail)
  have haW : (w.alloc (.cells #[.slice (some ⟨g, 0, none⟩) M.length cap] 28)).alloc (.cells #[.slice none 0 0] 28) = aW w (some ⟨g, 0, none⟩) cap M := rfl
  rw [haW]
  generalize aW w (some ⟨g, 0, none⟩) cap M = W2 at *
  clear haW
  refine HGv.out.mono ?_
  rintro e w1 ⟨rfl, hb1⟩
  have hbs := hb1.size
  replace hbx := (hb1.block _ (show w.heap.size < W2.heap.size by omega)).trans hbx
  replace hre := (hb1.block _ (show w.heap.size + 1 < W2.heap.size by omega)).trans hre
  have HBx := Lib.hid (below_box w1 (.cells #[.int .i64 U, .int .i64 sz, .int .i64 (-1)] 54))
  have HR := Lib.hid (And.intro hb1 (And.intro hbx hre))
  clear hb1 hbx hre
  have hsz1 : (w1.alloc (.cells #[.int .i64 U, .int .i64 sz, .int .i64 (-1)] 54)).heap.size = w1.heap.size + 1 := by simp
  go_wp2_with fail
  generalize (w1.alloc (.cells #[.int .i64 U, .int .i64 sz, .int .i64 (-1)] 54)) = W3 at *
  go_loopw [13] (fun kv wr => ∃ j : Nat, j ≤ hx ∧ kv = .int .i64 j ∧ Below W3.heap.size W3 wr) (fun kv _ => hx - (intOf kv).toNat)
  case atStart => exact ⟨0, Nat.zero_le _, rfl, Below.refl _ _⟩
  case round =>
    obtain ⟨j, hj, rfl, hb3⟩ := hrel
    have hb3s := hb3.size
    have hbx3 := (hb3.block _ (show w.heap.size < W3.heap.size by omega)).trans ((HBx.out.block _ (show w.heap.size < w1.heap.size by omega)).trans HR.out.2.1)
    have hre3 := (hb3.block _ (show w.heap.size + 1 < W3.heap.size by omega)).trans ((HBx.out.block _ (show w.heap.size + 1 < w1.heap.size by omega)).trans HR.out.2.2)
    have hB3 : Below W2.heap.size W2 wr := HR.out.1.trans ((HBx.out.trans (hb3.mono (by omega))).mono hbs)
    obtain ⟨x0, x1⟩ := one_cell hbx3
    by_cases hlt : j < hx
    · have HO := Lib.hid (HOy.out wr hB3 j hlt)
      have H3 := Lib.hid hb3
      clear hb3 hbx3 hre3 hB3
      go_wp2_with (go_at_call 52; refine HO.out.mono ?_; rintro e w4 ⟨rfl, hb4⟩; have H4 := Lib.hid hb4; clear hb4)
      go_roundw
      case rel => exact ⟨j + 1, by omega, by go_num, H3.out.trans (H4.out.mono (by omega))⟩
      case measure => simp [intOf]; omega
    · obtain rfl : j = hx := by omega
      have HO := Lib.hid (HOn.out wr hB3)
      have H3 := Lib.hid (And.intro hb3 (And.intro hB3 (And.intro hbx3 hre3)))
      clear hb3 hbx3 hre3 hB3
      go_wp2_with (go_at_call 52; fail)
      refine HO.out.mono ?_
      rintro e w4 ⟨rfl, hb4⟩
      have hb4s := hb4.size
      have hbx4 := (hb4.block _ (show w.heap.size < wr.heap.size by omega)).trans H3.out.2.2.1
      have hre4 := (hb4.block _ (show w.heap.size + 1 < wr.heap.size by omega)).trans H3.out.2.2.2
      obtain ⟨y0, y1⟩ := one_cell hbx4
      obtain ⟨z0, z1⟩ := one_cell hre4
      have H4 := Lib.hid (And.intro hb4 hre4)
      clear hb4 hbx4 hre4 x0 x1
      go_wp2
      have h9 := setCell_at w4 (w.heap.size + 1) 0 _ _ (.slice (some ⟨g, 0, none⟩) M.length cap) H4.out.2
      obtain ⟨q0, _⟩ := one_cell h9
      have hb9 : Below w.heap.size w (w4.setCell ⟨w.heap.size + 1, 0, none⟩ (.slice (some ⟨g, 0, none⟩) M.length cap)) :=
        (HB.out.trans ((H3.out.2.1.trans (H4.out.1.mono (by omega))).mono HB.out.size)).setCell (by show w.heap.size ≤ w.heap.size + 1; omega) _
      refine bodyPost_ret (v := .tuple #[.agg #[.slice (some ⟨g, 0, none⟩) M.length cap], .int .i64 0, .int .i64 5]) (by simp [results, Try.results45, go_sem, q0]) rfl ⟨⟨g, cap, cur, zs, rfl, ?_, H.out.2⟩, hb9⟩
      exact H.out.1.keep fun b hb hl => ⟨hb9.block b hl, .inl hb⟩

/-- What the item's append leaves. -/
structure BegS (KB : Nat → Prop) (w : World) (b1 b5 lo : Nat) (g cap k : Nat) (zs : List SZ) (z : SZ) (x : Item) (M : Tr) (wx : World) : Prop where
  cop : ∃ g6 c6 cur, Cop KB wx g cap cur (zs.set k (pushZ z x g6 c6))
  res : wx.heap[w.heap.size + 1]? = some (.cells #[.slice none 0 0] 28 (0, 0))
  box : wx.heap[b5]? = some (.cells #[.slice (some ⟨g, 0, none⟩) M.length cap] 28 (0, 0))
  item : wx.heap[b1]? = some (.cells #[.int .i64 x.a, .int .i64 x.s, .int .i64 x.c] 54 (0, 0))
  bel : Below w.heap.size w wx
  lo : lo ≤ wx.heap.size

theorem beg_push {KB : Nat → Prop} {w W7 w6 : World} {o : Obj} {b1 b5 g cap k g6 c6 : Nat} {cur : Array Value} {zs : List SZ} {z : SZ} {x : Item} {M : Tr} (hC : Cop KB W7 g cap cur zs) (hz : zs[k]? = some z) (hB : Below w.heap.size w W7)
    (hres : W7.heap[w.heap.size + 1]? = some (.cells #[.slice none 0 0] 28 (0, 0))) (hbox : W7.heap[b5]? = some (.cells #[.slice (some ⟨g, 0, none⟩) M.length cap] 28 (0, 0))) (hit : W7.heap[b1]? = some (.cells #[.int .i64 x.a, .int .i64 x.s, .int .i64 x.c] 54 (0, 0)))
    (hKB : ∀ b, KB b → w.heap.size + 1 < b ∧ b ≠ b1 ∧ b ≠ b5) (hK : ∀ b, W7.heap.size ≤ b → KB b) {L : Nat} {A : Option Addr} {c : Nat} (hL : z.x.l.length = L) (hzb : z.blk = (Value.slice A L c).ownBlock)
    (hown : w6.ownsRow 0 54 3 (.slice (some ⟨g6, 0, none⟩) (L + 1) c6) (L + 1) (icells z.x.l ++ x.cells)) (hg : (W7.alloc o).drew.grownBy w6 (Value.slice A L c).ownBlock) (hat : (Value.slice A L c).ownBlock = some g6 ∨ g6 = W7.heap.size + 1) :
    BegS KB w b1 b5 W7.heap.size g cap k zs z x M (w6.setCell ⟨g, k * 5 + 3, none⟩ (.slice (some ⟨g6, 0, none⟩) (L + 1) c6)) := by
  subst hL
  rw [← hzb] at hg hat
  have h2 : Below W7.heap.size W7 (W7.alloc o).drew := (below_box W7 o).drew
  have hsd : (W7.alloc o).drew.heap.size = W7.heap.size + 1 := by show (W7.alloc o).heap.size = _; simp
  obtain ⟨cur6, hpush⟩ := hC.push hz (x := x) h2 hown hg (by rw [hsd]; exact hat) hK
  have hgg := hKB g hC.low
  have hkeep : ∀ b, b < W7.heap.size → ¬ KB b → (w6.setCell ⟨g, k * 5 + 3, none⟩ (.slice (some ⟨g6, 0, none⟩) (z.x.l.length + 1) c6)).heap[b]? = W7.heap[b]? := fun b hb hn => by
    rw [setCell_far _ _ _ _ (by show b ≠ g; intro e; exact hn (e ▸ hC.low)), hg.block b (by rw [hsd]; omega) (fun e => hn (hC.own k z b hz e.symm)), h2.block b hb]
  have hgs := hg.size
  have hBs := hB.size
  refine ⟨⟨g6, c6, cur6, hpush⟩, (hkeep _ (lt_of_heap hres) (fun h => by have := (hKB _ h).1; omega)).trans hres, (hkeep _ (lt_of_heap hbox) (fun h => (hKB _ h).2.2 rfl)).trans hbox, (hkeep _ (lt_of_heap hit) (fun h => (hKB _ h).2.1 rfl)).trans hit, ?_, by rw [setCell_size]; omega⟩
  exact ((hB.trans (h2.mono hBs)).grown hg (by rw [hsd]; omega) (fun b hb => by have := (hKB _ (hC.own k z b hz hb)).1; omega)).setCell (by show w.heap.size ≤ g; omega) _

theorem room_lt {M : Tr} {k h : Nat} {n : Node} (hk : M[k]? = some (some n)) (hh : h < M.length) (x : Item) (o : Option Node) :
    (addItem (room M h) k x).set h o = (M.set k (some { n with l := n.l ++ [x] })).set h o := by
  unfold room
  rw [if_pos hh, addItem_eq hk]
theorem room_eq {M : Tr} {k h : Nat} {n : Node} (hk : M[k]? = some (some n)) (hh : h = M.length) (x : Item) (o : Option Node) :
    (addItem (room M h) k x).set h o = M.set k (some { n with l := n.l ++ [x] }) ++ [o] := by
  subst hh
  have hkl := (List.getElem?_eq_some_iff.1 hk).1
  have h1 : (M ++ [none])[k]? = some (some n) := by rw [List.getElem?_append_left hkl]; exact hk
  unfold room
  rw [if_neg (by omega), addItem_eq h1, List.set_append_left _ _ hkl, List.set_append_right _ _ (by simp)]
  simp

set_option maxRecDepth 100000 in
set_option maxHeartbeats 8000000 in
theorem beginR_yes (K : Nat → Prop) (w : World) (g cap : Nat) (cur : Array Value) (zs : List SZ) (M : Tr) (i sz al : Int) (hC : Cop K w g cap cur zs) (hs : zs.map (·.x) = save M) (hg : Good M) (he : (give M i sz al).2 = 0) (hh : hole M ≠ 64) :
    Calls Try.prog 45 #[.agg #[.slice (some ⟨g, 0, none⟩) M.length cap], .int .i64 i, .int .i64 sz, .int .i64 al] w fun e w' => RefOut K w ((addItem (room M (hole M)) i.toNat ⟨(give M i sz al).1, sz, hole M⟩).set (hole M) (some ⟨i, (give M i sz al).1, sz, []⟩)) (fun v => e = .returned (.tuple #[v, .int .i64 (hole M), .int .i64 0])) w' ∧ Below w.heap.size w w' := by
  obtain ⟨n, hf, hgi⟩ : ∃ n, find M i = some n ∧ n.l.length < 200 := by
    cases hf : find M i with
    | none => simp [give, hf] at he
    | some n =>
      refine ⟨n, rfl, ?_⟩
      have h1 := (hg.node _ _ (find_some hf).2).len
      by_cases h2 : n.l.length = 200
      · simp [give, hf, h2] at he
        split at he <;> simp at he
      · omega
  obtain ⟨h0, hi⟩ := find_some hf
  obtain ⟨k, rfl⟩ := Int.eq_ofNat_of_zero_le h0
  rw [Int.toNat_natCast] at hi ⊢
  have hkl := (List.getElem?_eq_some_iff.1 hi).1
  have hsz := aW_size w (some ⟨g, 0, none⟩) cap M
  have hbx := aW_box w (some ⟨g, 0, none⟩) cap M
  have hre := aW_res w (some ⟨g, 0, none⟩) cap M
  have hcl := lt_of_heap hC.row
  have hm64 := hg.len
  have hle := hole_le M
  have hzl : zs.length = M.length := by have := congrArg List.length hs; rw [List.length_map, save_length] at this; exact this
  have hC2 := hC.below (aW_below w (some ⟨g, 0, none⟩) cap M)
  have HGv := Lib.hid (giveR_ok K _ (some ⟨g, 0, none⟩) cap M k sz al (hC2.stK hs) hg)
  unfold GiveR at HGv
  have hit : gItem M k sz al = ⟨(give M k sz al).1, sz, -1⟩ := by unfold gItem; rw [if_pos he]
  rw [hit, he] at HGv
  have HOy := Lib.hid (fun w2 (hb : Below (aW w (some ⟨g, 0, none⟩) cap M).heap.size (aW w (some ⟨g, 0, none⟩) cap M) w2) (j : Nat) (hj : j < hole M) => open_yes K w2 (some ⟨g, 0, none⟩) cap M j (find_lt_hole hj).choose ((hC2.below hb).stK hs) (find_lt_hole hj).choose_spec)
  have HOn := Lib.hid (fun w2 (hb : Below (aW w (some ⟨g, 0, none⟩) cap M).heap.size (aW w (some ⟨g, 0, none⟩) cap M) w2) => open_no K w2 (some ⟨g, 0, none⟩) cap M (hole M) ((hC2.below hb).stK hs) (find_hole M))
  have HCp := Lib.hid (fun w2 (hb : Below (aW w (some ⟨g, 0, none⟩) cap M).heap.size (aW w (some ⟨g, 0, none⟩) cap M) w2) => copy_ok K w2 g cap cur zs (hC2.below hb) (by rw [hzl]; exact hg.pos) (by rw [hzl]; exact hg.len) (fun j y hy => by
    have h1 : (save M)[j]? = some y.x := by rw [← hs, List.getElem?_map, hy]; rfl
    rw [save, List.getElem?_map] at h1
    cases e : M[j]? with
    | none => rw [e] at h1; cases h1
    | some o =>
      rw [e] at h1
      injection h1 with h1
      rw [← h1]
      cases o with
      | none => exact Nat.zero_le _
      | some q => exact (hg.node j q e).len))
  rw [hzl] at HCp
  have HB := Lib.hid (aW_below w (some ⟨g, 0, none⟩) cap M)
  have H := Lib.hid (And.intro hs (And.intro hi hzl))
  have hE : (((hole M : Nat) : Int) == 64) = false := beq_eq_false_iff_ne.2 (by omega)
  have hhx : ∃ hx, hx = hole M := ⟨_, rfl⟩
  clear hC hC2 hs hg he hf hi h0 hit hzl hh
  generalize (give M k sz al).1 = U at *
  generalize hole M = hx at *
  clear hhx
  go_enter Try.func45, Try.ntmps45
  go_wp2_with (go_at_call 58; fail)
  have haW : (w.alloc (.cells #[.slice (some ⟨g, 0, none⟩) M.length cap] 28)).alloc (.cells #[.slice none 0 0] 28) = aW w (some ⟨g, 0, none⟩) cap M := rfl
  rw [haW]
  generalize aW w (some ⟨g, 0, none⟩) cap M = W2 at *
  clear haW
  refine HGv.out.mono ?_
  rintro e w1 ⟨rfl, hb1⟩
  have hbs := hb1.size
  replace hbx := (hb1.block _ (show w.heap.size < W2.heap.size by omega)).trans hbx
  replace hre := (hb1.block _ (show w.heap.size + 1 < W2.heap.size by omega)).trans hre
  have HBx := Lib.hid (below_box w1 (.cells #[.int .i64 U, .int .i64 sz, .int .i64 (-1)] 54))
  have hnew := heap_alloc_new w1 (.cells #[.int .i64 U, .int .i64 sz, .int .i64 (-1)] 54)
  have HR := Lib.hid (And.intro hb1 (And.intro hbx hre))
  clear hb1 hbx hre
  have hsz1 : (w1.alloc (.cells #[.int .i64 U, .int .i64 sz, .int .i64 (-1)] 54)).heap.size = w1.heap.size + 1 := by simp
  go_wp2_with fail
  generalize (w1.alloc (.cells #[.int .i64 U, .int .i64 sz, .int .i64 (-1)] 54)) = W3 at *
  have HX3 := Lib.hid hnew
  clear hnew
  go_loopw [13] (fun kv wr => ∃ j : Nat, j ≤ hx ∧ kv = .int .i64 j ∧ Below W3.heap.size W3 wr) (fun kv _ => hx - (intOf kv).toNat)
  case atStart => exact ⟨0, Nat.zero_le _, rfl, Below.refl _ _⟩
  case round =>
    obtain ⟨j, hj, rfl, hb3⟩ := hrel
    have hb3s := hb3.size
    have hbx3 := (hb3.block _ (show w.heap.size < W3.heap.size by omega)).trans ((HBx.out.block _ (show w.heap.size < w1.heap.size by omega)).trans HR.out.2.1)
    have hre3 := (hb3.block _ (show w.heap.size + 1 < W3.heap.size by omega)).trans ((HBx.out.block _ (show w.heap.size + 1 < w1.heap.size by omega)).trans HR.out.2.2)
    have hX3 := (hb3.block _ (show w1.heap.size < W3.heap.size by omega)).trans HX3.out
    have hB3 : Below W2.heap.size W2 wr := HR.out.1.trans ((HBx.out.trans (hb3.mono (by omega))).mono hbs)
    obtain ⟨x0, x1⟩ := one_cell hbx3
    by_cases hlt : j < hx
    · have HO := Lib.hid (HOy.out wr hB3 j hlt)
      have H3 := Lib.hid hb3
      clear hb3 hbx3 hre3 hB3 hX3
      go_wp2_with (go_at_call 52; refine HO.out.mono ?_; rintro e w4 ⟨rfl, hb4⟩; have H4 := Lib.hid hb4; clear hb4)
      go_roundw
      case rel => exact ⟨j + 1, by omega, by go_num, H3.out.trans (H4.out.mono (by omega))⟩
      case measure => simp [intOf]; omega
    · obtain rfl : j = hx := by omega
      have HO := Lib.hid (HOn.out wr hB3)
      have H3 := Lib.hid (And.intro hB3 (And.intro hbx3 (And.intro hre3 hX3)))
      clear hb3 hbx3 hre3 hB3 hX3
      go_wp2_with (go_at_call 52; fail)
      refine HO.out.mono ?_
      rintro e w4 ⟨rfl, hb4⟩
      have hb4s := hb4.size
      have hbx4 := (hb4.block _ (show w.heap.size < wr.heap.size by omega)).trans H3.out.2.1
      have hre4 := (hb4.block _ (show w.heap.size + 1 < wr.heap.size by omega)).trans H3.out.2.2.1
      have hX4 := (hb4.block _ (show w1.heap.size < wr.heap.size by omega)).trans H3.out.2.2.2
      have hB4 : Below W2.heap.size W2 w4 := H3.out.1.trans (hb4.mono (by omega))
      obtain ⟨y0, y1⟩ := one_cell hbx4
      have HC5 := Lib.hid (HCp.out w4 hB4)
      have H4 := Lib.hid (And.intro hB4 (And.intro hbx4 (And.intro hre4 hX4)))
      clear hb4 hbx4 hre4 hX4 hB4 x0 x1
      go_wp2_with (go_at_call 59; fail)
      refine HC5.out.mono ?_
      rintro e w5 ⟨⟨g', cap', cur', zs', rfl, hC5, hs5⟩, hb5⟩
      have hb5s := hb5.size
      have hX5 := (hb5.block _ (show w1.heap.size < w4.heap.size by omega)).trans H4.out.2.2.2
      have hre5 := (hb5.block _ (show w.heap.size + 1 < w4.heap.size by omega)).trans H4.out.2.2.1
      have hlz : zs'.length = M.length := by have := congrArg List.length hs5; rw [List.length_map, List.length_map, H.out.2.2] at this; exact this
      have hgt := lt_of_heap hC5.row
      have hglo := hC5.low
      have hC6 : Cop (fun b => w4.heap.size ≤ b ∧ b ≠ w5.heap.size) w5 g' cap' cur' zs' :=
        ⟨⟨hglo, by omega⟩, hC5.row, hC5.size, hC5.len, hC5.most, hC5.cells, hC5.rows, fun i z b hz hb => ⟨hC5.own i z b hz hb, by have := ((hC5.rows i z hz).lt b hb).2; omega⟩, hC5.apart⟩
      obtain ⟨z, hz, hzx⟩ := sz_at (hs5.trans H.out.1) H.out.2.1
      have hX6 := (alloc_old w5 (.cells #[.slice (some ⟨g', 0, none⟩) M.length cap'] 28) _ (show w1.heap.size < w5.heap.size by omega)).trans hX5
      obtain ⟨p0, p1, p2, p3, p4, p5⟩ := three_cells hX6
      obtain ⟨W7, hW7⟩ : ∃ W7, W7 = (w5.alloc (.cells #[.slice (some ⟨g', 0, none⟩) M.length cap'] 28)).setCell ⟨w1.heap.size, 2, none⟩ (.int .i64 (j : Int)) := ⟨_, rfl⟩
      have hk7 : ∀ b, b < w5.heap.size → b ≠ w1.heap.size → W7.heap[b]? = w5.heap[b]? := fun b h1 h2 => by rw [hW7, setCell_far _ _ _ _ h2, alloc_old _ _ _ h1]
      have hs7 : W7.heap.size = w5.heap.size + 1 := by rw [hW7, setCell_size]; simp
      have hX7 : W7.heap[w1.heap.size]? = some (.cells #[.int .i64 U, .int .i64 sz, .int .i64 (j : Int)] 54 (0, 0)) := by
        rw [hW7, setCell_at _ w1.heap.size 2 _ _ _ hX6]; rfl
      have hbox7 : W7.heap[w5.heap.size]? = some (.cells #[.slice (some ⟨g', 0, none⟩) M.length cap'] 28 (0, 0)) := by
        rw [hW7, setCell_far _ _ _ _ (by show w5.heap.size ≠ w1.heap.size; omega)]; exact heap_alloc_new _ _
      have hre7 := (hk7 (w.heap.size + 1) (by omega) (by omega)).trans hre5
      have hC7 : Cop (fun b => w4.heap.size ≤ b ∧ b ≠ w5.heap.size) W7 g' cap' cur' zs' := hC6.keep fun b hb hl => ⟨hk7 b hl (by omega), hb⟩
      have hB7 : Below w.heap.size w W7 := by
        have h1 := HB.out
        have h2 := H4.out.1
        have a1 := h1.size
        have a2 := h2.size
        have h3 : Below w.heap.size w w5 := h1.trans ((h2.trans (hb5.mono a2)).mono a1)
        exact h3.trans ⟨by rw [hW7]; rfl, by rw [hW7]; rfl, by rw [hW7]; rfl, by omega, fun b hb => hk7 b (by omega) (by omega)⟩
      obtain ⟨_, _, _, d3, _, d5⟩ := hC7.cell hz
      have hrow := hC7.rows k z hz
      have hblk : z.blk ≠ some g' := fun e => hC7.not_row hz e rfl
      have hzl2 : z.x.l = n.l := by rw [hzx]; rfl
      obtain ⟨hr1, hr2⟩ := row_len (RowK.of_row (K := fun _ => True) hrow fun _ _ => trivial)
      replace d5 := d5 (k * 5 + 3)
      have hln := hC7.len
      have hcm := hC7.most
      unfold maxLen at hcm
      rw [hlz] at hln
      obtain ⟨t0, _⟩ := one_cell hbox7
      obtain ⟨e0, e1, e2, _⟩ := three_cells hX7
      rw [hzl2] at hrow hr1 d3
      have hrow' : ∀ o, (W7.drew.alloc o).ownsRow 0 54 3 (.slice z.A n.l.length z.c) n.l.length (icells n.l) := fun o => by
        have h1 : W7.drew.ownsRow 0 54 3 (.slice z.A n.l.length z.c) n.l.length (icells n.l) := by
          have := hrow
          unfold SZ.val at this
          rw [hzl2] at this
          exact this
        exact h1.alloc o
      have hblk' : (Value.slice z.A n.l.length z.c).ownBlock ≠ some g' := by
        unfold SZ.blk SZ.val at hblk
        rw [hzl2] at hblk
        exact hblk
      have hblo : ∀ b, (Value.slice z.A n.l.length z.c).ownBlock = some b → w4.heap.size ≤ b ∧ b ≠ w5.heap.size := fun b hb => hC7.own k z b hz (by unfold SZ.blk SZ.val; rw [hzl2]; exact hb)
      obtain ⟨i0, z0, hi0, hz0, hz1, hz2, hz3⟩ := info_open item_info
      have hzb : z.blk = (Value.slice z.A n.l.length z.c).ownBlock := by unfold SZ.blk SZ.val; rw [hzl2]
      have HN := Lib.hid (And.intro hC7 (And.intro hz (And.intro hB7 (And.intro hre7 (And.intro hbox7 (And.intro hX7 (And.intro hrow' hblo)))))))
      have HZ := Lib.hid (And.intro hs5 (And.intro hzx (And.intro hzl2 (And.intro hzb hlz))))
      have hgl7 := lt_of_heap hC7.row
      have n1 := World.new_ne W7 _ t0
      have n2 := World.new_ne W7 _ d3
      have n3 := World.new_ne W7 _ e0
      have bt : some w5.heap.size ≠ (Value.slice z.A n.l.length z.c).ownBlock := fun e => (hblo _ e.symm).2 rfl
      have bx : some w1.heap.size ≠ (Value.slice z.A n.l.length z.c).ownBlock := fun e => by have := (hblo _ e.symm).1; omega
      have bg : some g' ≠ (Value.slice z.A n.l.length z.c).ownBlock := fun e => hblk' e.symm
      clear hC5 hC6 hC7 hs5 hb5 hz hzx hX5 hX6 hre5 hk7 hre7 hbox7 hX7 hB7 hrow hrow' hblk hblk' hblo hzb hzl2 hlz
      generalize z.A = A at *
      generalize z.c = c at *
      go_upto_region 11 with (fail)
      rw [← hW7]
      clear hW7 p0 p1 p2 p3 p4 p5
      have hw4 : w5.heap.size < W7.heap.size := by omega
      have hx4 : w1.heap.size < W7.heap.size := by omega
      obtain ⟨r0, r1, r2, r3, r4, r5⟩ : (W7.alloc (.cells #[.int .i64 U, .int .i64 sz, .int .i64 (j : Int)] 54)).drew.cell? ⟨w5.heap.size, 0, none⟩ = some (.slice (some ⟨g', 0, none⟩) M.length cap') ∧ (W7.alloc (.cells #[.int .i64 U, .int .i64 sz, .int .i64 (j : Int)] 54)).drew.cell? ⟨g', k * 5 + 3, none⟩ = some (.slice A n.l.length c) ∧ (W7.alloc (.cells #[.int .i64 U, .int .i64 sz, .int .i64 (j : Int)] 54)).drew.frozen? ⟨g', k * 5 + 3, none⟩ = false ∧ (W7.alloc (.cells #[.int .i64 U, .int .i64 sz, .int .i64 (j : Int)] 54)).drew.cell? ⟨w1.heap.size, 0, none⟩ = some (.int .i64 U) ∧ (W7.alloc (.cells #[.int .i64 U, .int .i64 sz, .int .i64 (j : Int)] 54)).drew.cell? ⟨w1.heap.size, 1, none⟩ = some (.int .i64 sz) ∧ (W7.alloc (.cells #[.int .i64 U, .int .i64 sz, .int .i64 (j : Int)] 54)).drew.cell? ⟨w1.heap.size, 2, none⟩ = some (.int .i64 (j : Int)) :=
        ⟨(World.cell?_alloc_lt W7 _ _ hw4).trans t0, (World.cell?_alloc_lt W7 _ _ hgl7).trans d3, (World.frozen?_alloc_old W7 _ _ (Nat.ne_of_lt hgl7)).trans d5, (World.cell?_alloc_lt W7 _ _ hx4).trans e0, (World.cell?_alloc_lt W7 _ _ hx4).trans e1, (World.cell?_alloc_lt W7 _ _ hx4).trans e2⟩
      have hsd : (W7.alloc (.cells #[.int .i64 U, .int .i64 sz, .int .i64 (j : Int)] 54)).drew.heap.size = W7.heap.size + 1 := by show (W7.alloc _).heap.size = _; simp
      have ntg : w5.heap.size ≠ g' := by omega
      have nxg : w1.heap.size ≠ g' := by omega
      have HNW : Hid (∀ j' u, (Item.cells ⟨U, sz, (j : Int)⟩)[j']? = some u → (W7.alloc (.cells #[.int .i64 U, .int .i64 sz, .int .i64 (j : Int)] 54)).drew.cell? ((⟨W7.heap.size, 0, none⟩ : Addr).add j') = some u) := Lib.hid (World.news_of_block (heap_alloc_new _ _))
      rw [hs7] at HNW
      go_cut [51] from 40 to 53 (fun _ wx => BegS (fun b => w4.heap.size ≤ b ∧ b ≠ w5.heap.size) w w1.heap.size w5.heap.size W7.heap.size g' cap' k zs' z ⟨U, sz, j⟩ M wx)
      case first =>
        go_region_law ((refine step_append_lies _ (by rfl) (.tmp 48) (.tmp 50) _ (by rfl) 0 54 i0 z0 3 24 Try.underlying33 hi0 hz0 hz1 hz2 hz3 (by omega) (.slice A n.l.length c) n.l.length (icells n.l) (by rfl) (HN.out.2.2.2.2.2.2.1 _) ⟨w5.heap.size + 1, 0, none⟩ 1 1 (Item.cells ⟨U, sz, (j : Int)⟩) (by rfl) (by rfl) HNW.out (by simp [Item.cells, Value.oneCell']) (by omega) (by unfold maxLen; omega) (by omega) (Nat.zero_le _) (w5.heap.size + 2) (by rw [hsd, hs7]) ?_; intro g6 cap6 w6 hown6 hgrow6 hat6 hlt6; have u0 : w6.cell? ⟨w5.heap.size, 0, none⟩ = some (.slice (some ⟨g', 0, none⟩) M.length cap') := (hgrow6.cell_far ⟨_, _, none⟩ (by rw [hsd]; exact Nat.lt_succ_of_lt hw4) bt).trans r0; have u1 : w6.cell? ⟨g', k * 5 + 3, none⟩ = some (.slice A n.l.length c) := (hgrow6.cell_far ⟨_, _, none⟩ (by rw [hsd]; exact Nat.lt_succ_of_lt hgl7) bg).trans r1; have u2 : w6.frozen? ⟨g', k * 5 + 3, none⟩ = false := (hgrow6.frozen_far ⟨_, _, none⟩ (by rw [hsd]; exact Nat.lt_succ_of_lt hgl7) bg).trans r2))
        all_goals
          clear r0 r1 r2 r3 r4 r5 u0 u1 u2 t0 d3 d5 e0 e1 e2 n1 n2 n3
          go_wp2_with (fail)
          go_meet
          exact beg_push HN.out.1 HN.out.2.1 HN.out.2.2.1 HN.out.2.2.2.1 HN.out.2.2.2.2.1 HN.out.2.2.2.2.2.1 (fun b hb => ⟨by omega, by omega, hb.2⟩) (fun b hb => ⟨by omega, by omega⟩) (by rw [HZ.out.2.2.1]) HZ.out.2.2.2.1 (by rw [HZ.out.2.2.1]; exact hown6) hgrow6 (by rw [hs7]; exact hat6)
      case rest =>
        obtain ⟨⟨g6, c6, cur6, hC8⟩, hre8, hbox8, hX8, hB8, hlo8⟩ := hcut
        clear r0 r1 r2 r3 r4 r5 t0 d3 d5 e0 e1 e2 n1 n2 n3 bt bx bg HNW
        obtain ⟨t0, _⟩ := one_cell hbox8
        obtain ⟨e0, e1, _⟩ := three_cells hX8
        have hzl8 : (zs'.set k (pushZ z ⟨U, sz, j⟩ g6 c6)).length = M.length := by rw [List.length_set]; exact HZ.out.2.2.2.2
        have hmap : (zs'.set k (pushZ z ⟨U, sz, j⟩ g6 c6)).map (·.x) = save (M.set k (some { n with l := n.l ++ [⟨U, sz, j⟩] })) := by
          rw [List.map_set, HZ.out.1, H.out.1]
          have : (pushZ z ⟨U, sz, j⟩ g6 c6).x = saveNode (some { n with l := n.l ++ [⟨U, sz, j⟩] }) := by
            unfold pushZ
            rw [HZ.out.2.1]
            rfl
          rw [this]
          simp [save, List.map_set]
        generalize zs'.set k (pushZ z ⟨U, sz, j⟩ g6 c6) = ZS at *
        have hbN := below_box wc (.cells #[.int .i64 (k : Int), .int .i64 U, .int .i64 sz, .slice none 0 0, .bool false] 35)
        have hC9 := hC8.below hbN
        have hre9 := (hbN.block _ (lt_of_heap hre8)).trans hre8
        have hbox9 := (hbN.block _ (lt_of_heap hbox8)).trans hbox8
        have hN9 := heap_alloc_new wc (.cells #[.int .i64 (k : Int), .int .i64 U, .int .i64 sz, .slice none 0 0, .bool false] 35)
        have hB9 := hB8.trans (hbN.mono hB8.size)
        have hs9 : (wc.alloc (.cells #[.int .i64 (k : Int), .int .i64 U, .int .i64 sz, .slice none 0 0, .bool false] 35)).heap.size = wc.heap.size + 1 := by simp
        have hbl := lt_of_heap hbox8
        obtain ⟨t9, tf9⟩ := one_cell hbox9
        obtain ⟨m0, m1, m2, m3, m4⟩ := node_set (o := .cells #[] 0) hN9
        have HS9 := Lib.hid (And.intro hC9 (And.intro hre9 (And.intro hbox9 (And.intro hN9 (And.intro hB9 (And.intro hmap hzl8))))))
        have hglo9 := hC9.low
        clear hC8 hre8 hbox8 hX8 hB8 hbN hC9 hre9 hbox9 hN9 hB9 hmap hzl8
        go_upto_region 13 with (fail)
        generalize (wc.alloc (.cells #[.int .i64 (k : Int), .int .i64 U, .int .i64 sz, .slice none 0 0, .bool false] 35)) = W9 at *
        have hgl9 := lt_of_heap HS9.out.1.row
        have hbg9 : w5.heap.size ≠ g' := fun e => hglo9.2 e.symm
        have hrg9 : w.heap.size + 1 ≠ g' := by omega
        by_cases hlt2 : j < M.length
        · obtain ⟨y, hy⟩ : ∃ y, ZS[j]? = some y := ⟨_, List.getElem?_eq_getElem (by rw [HS9.out.2.2.2.2.2.2]; exact hlt2)⟩
          obtain ⟨d0, d1, d2, d3, d4, d5⟩ := HS9.out.1.cell hy
          have f0 := d5 (j * 5)
          have f1 := d5 (j * 5 + 1)
          have f2 := d5 (j * 5 + 2)
          have f3 := d5 (j * 5 + 3)
          have f4 := d5 (j * 5 + 4)
          obtain ⟨cur9, hC10⟩ := HS9.out.1.putNew (i := j) (by rw [HS9.out.2.2.2.2.2.2]; exact hlt2) k U sz
          have hbox10 := (put5_far W9 g' j (.int .i64 (k : Int)) (.int .i64 U) (.int .i64 sz) (.slice none 0 0) (.bool false) _ hbg9).trans HS9.out.2.2.1
          have hre10 := (put5_far W9 g' j (.int .i64 (k : Int)) (.int .i64 U) (.int .i64 sz) (.slice none 0 0) (.bool false) _ hrg9).trans HS9.out.2.1
          have hB10 : Below w.heap.size w (put5 W9 g' j (.int .i64 (k : Int)) (.int .i64 U) (.int .i64 sz) (.slice none 0 0) (.bool false)) := by
            unfold put5
            have hlo : w.heap.size ≤ g' := by omega
            exact ((((HS9.out.2.2.2.2.1.setCell (by show w.heap.size ≤ g'; omega) _).setCell (by show w.heap.size ≤ g'; omega) _).setCell (by show w.heap.size ≤ g'; omega) _).setCell (by show w.heap.size ≤ g'; omega) _).setCell (by show w.heap.size ≤ g'; omega) _
          obtain ⟨t10, _⟩ := one_cell hbox10
          obtain ⟨s10, sf10⟩ := one_cell hre10
          have h11 := setCell_at _ _ 0 _ _ (.slice (some ⟨g', 0, none⟩) M.length cap') hre10
          obtain ⟨q0, _⟩ := one_cell h11
          have HE := Lib.hid (And.intro hC10 hB10)
          clear hC10 hB10 hbox10 hre10 hy d5 h11
          unfold put5 at t10 s10 sf10 q0
          go_wp2
          have hMM : (addItem (room M j) k ⟨U, sz, j⟩).set j (some ⟨k, U, sz, []⟩) = (M.set k (some { n with l := n.l ++ [⟨U, sz, j⟩] })).set j (some ⟨k, U, sz, []⟩) := room_lt H.out.2.1 hlt2 _ _
          have hlen2 : ((addItem (room M j) k ⟨U, sz, j⟩).set j (some ⟨k, U, sz, []⟩)).length = M.length := by rw [hMM]; simp
          have hmapF : (ZS.set j (newZ k U sz)).map (·.x) = save ((addItem (room M j) k ⟨U, sz, j⟩).set j (some ⟨k, U, sz, []⟩)) := by
            rw [hMM, List.map_set, HS9.out.2.2.2.2.2.1]
            have : (newZ k U sz).x = saveNode (some ⟨k, U, sz, []⟩) := rfl
            rw [this]
            simp [save, List.map_set]
          refine bodyPost_ret (v := .tuple #[.agg #[.slice (some ⟨g', 0, none⟩) M.length cap'], .int .i64 (j : Int), .int .i64 0]) (by simp [results, Try.results45, go_sem, q0]) rfl ⟨⟨g', cap', cur9, _, by rw [hlen2], ?_, hmapF⟩, ?_⟩
          · exact HE.out.1.keep fun b hb _ => ⟨setCell_far (put5 W9 g' j (.int .i64 (k : Int)) (.int .i64 U) (.int .i64 sz) (.slice none 0 0) (.bool false)) ⟨w.heap.size + 1, 0, none⟩ _ b (by show b ≠ w.heap.size + 1; omega), .inr (by omega)⟩
          · exact HE.out.2.setCell (p := ⟨w.heap.size + 1, 0, none⟩) (by show w.heap.size ≤ w.heap.size + 1; omega) _
        · obtain ⟨i1, z1, hi1, hy0, hy1, hy2, hy3⟩ := info_open node_info
          have hO := HS9.out.1.owns
          rw [HS9.out.2.2.2.2.2.2] at hO
          have HO := Lib.hid hO
          clear hO
          have hwl : w.heap.size + 1 < W9.heap.size := lt_of_heap HS9.out.2.1
          have HNX := Lib.hid (World.news_of_block (heap_alloc_new W9 (.cells #[.int .i64 (k : Int), .int .i64 U, .int .i64 sz, .slice none 0 0, .bool false] 35)))
          rw [hs9] at HNX
          go_wp2_with (first |
            (at_builtin; refine wpList_append_lies _ rfl (.tmp 71) (.tmp 73) _ rfl 0 35 i1 z1 5 56 Try.underlying26 hi1 hy0 hy1 hy2 hy3 (by omega) (.slice (some ⟨g', 0, none⟩) M.length cap') M.length (szcells ZS) rfl (HO.out.alloc _) ⟨wc.heap.size + 1, 0, none⟩ 1 1 [.int .i64 (k : Int), .int .i64 U, .int .i64 sz, .slice none 0 0, .bool false] rfl rfl HNX.out (by simp [Value.oneCell']) (by omega) (by unfold maxLen; omega) (by omega) (Nat.zero_le _) (W9.heap.size + 1) (by simp) ?_
             intro g7 cap7 w7 hown7 hgrow7 hat7 hlt7
             have hbox7 := (hgrow7.block _ (show w5.heap.size < (W9.alloc _).heap.size by simp; omega) (fun e => hbg9 (by injection e))).trans ((alloc_old W9 _ _ (show w5.heap.size < W9.heap.size by omega)).trans HS9.out.2.2.1)
             have hre7 := (hgrow7.block _ (show w.heap.size + 1 < (W9.alloc _).heap.size by simp; omega) (fun e => hrg9 (by injection e))).trans ((alloc_old W9 _ _ hwl).trans HS9.out.2.1)
             obtain ⟨q1, q2⟩ := one_cell hbox7
             have HG := Lib.hid (And.intro hown7 (And.intro hgrow7 (And.intro hat7 (And.intro hbox7 hre7))))
             have h8 := (setCell_far w7 ⟨w5.heap.size, 0, none⟩ (.slice (some ⟨g7, 0, none⟩) (M.length + 1) cap7) _ (show w.heap.size + 1 ≠ w5.heap.size by omega)).trans hre7
             obtain ⟨q3, q4⟩ := one_cell h8
             have h11 := setCell_at _ _ 0 _ _ (.slice (some ⟨g7, 0, none⟩) (M.length + 1) cap7) h8
             obtain ⟨q5, _⟩ := one_cell h11
             clear hown7 hgrow7 hat7 hbox7 hre7 h8 h11))
          obtain ⟨hown7, hgrow7, hat7, hbox7, hre7⟩ := HG.out
          obtain ⟨cur7, hC10⟩ := HS9.out.1.app (p := k) (a := U) (s := sz) (below_box W9 _) (by rw [HS9.out.2.2.2.2.2.2]; exact hown7) hgrow7 (by simpa [Value.ownBlock] using hat7) (fun b hb => ⟨by omega, by omega⟩)
          have hMM : (addItem (room M j) k ⟨U, sz, j⟩).set j (some ⟨k, U, sz, []⟩) = M.set k (some { n with l := n.l ++ [⟨U, sz, j⟩] }) ++ [some ⟨k, U, sz, []⟩] := room_eq H.out.2.1 (by omega) _ _
          have hlen2 : ((addItem (room M j) k ⟨U, sz, j⟩).set j (some ⟨k, U, sz, []⟩)).length = M.length + 1 := by rw [hMM]; simp
          have hmapF : (ZS ++ [newZ k U sz]).map (·.x) = save ((addItem (room M j) k ⟨U, sz, j⟩).set j (some ⟨k, U, sz, []⟩)) := by
            rw [hMM, List.map_append, HS9.out.2.2.2.2.2.1]
            have : (newZ k U sz).x = saveNode (some ⟨k, U, sz, []⟩) := rfl
            simp [save, this]
          have hb7 : Below w.heap.size w w7 := by
            have hs := HS9.out.2.2.2.2.1.size
            exact (HS9.out.2.2.2.2.1.trans ((below_box W9 _).mono hs)).grown hgrow7 (by simp; omega) (fun b hb => by
              have : b = g' := by simpa [Value.ownBlock] using hb.symm
              omega)
          refine bodyPost_ret (v := .tuple #[.agg #[.slice (some ⟨g7, 0, none⟩) (M.length + 1) cap7], .int .i64 (j : Int), .int .i64 0]) (by simp [results, Try.results45, go_sem, q5]) rfl ⟨⟨g7, cap7, cur7, _, by rw [hlen2], ?_, hmapF⟩, ?_⟩
          · exact hC10.keep fun b hb _ => ⟨(setCell_far (w7.setCell ⟨w5.heap.size, 0, none⟩ (.slice (some ⟨g7, 0, none⟩) (M.length + 1) cap7)) ⟨w.heap.size + 1, 0, none⟩ _ b (by show b ≠ w.heap.size + 1; omega)).trans (setCell_far w7 ⟨w5.heap.size, 0, none⟩ _ b hb.2), .inr (by omega)⟩
          · exact (hb7.setCell (p := ⟨w5.heap.size, 0, none⟩) (by show w.heap.size ≤ w5.heap.size; omega) _).setCell (p := ⟨w.heap.size + 1, 0, none⟩) (by show w.heap.size ≤ w.heap.size + 1; omega) _

theorem beginR_ok (K : Nat → Prop) (w : World) (g cap : Nat) (cur : Array Value) (zs : List SZ) (M : Tr) (i sz al : Int) (hC : Cop K w g cap cur zs) (hs : zs.map (·.x) = save M) (hg : Good M) :
    Calls Try.prog 45 #[.agg #[.slice (some ⟨g, 0, none⟩) M.length cap], .int .i64 i, .int .i64 sz, .int .i64 al] w fun e w' => RefOut K w (begin_ M i sz al).1 (fun v => e = .returned (.tuple #[v, .int .i64 (begin_ M i sz al).2.1, .int .i64 (begin_ M i sz al).2.2])) w' ∧ Below w.heap.size w w' := by
  by_cases he : (give M i sz al).2 = 0
  · by_cases hh : hole M = 64
    · have := beginR_full K w g cap cur zs M i sz al hC hs hg he hh
      unfold begin_
      rw [if_pos he, if_pos hh]
      exact this
    · have := beginR_yes K w g cap cur zs M i sz al hC hs hg he hh
      unfold begin_
      rw [if_pos he, if_neg hh]
      exact this
  · have := beginR_err K w g cap cur zs M i sz al hC hs hg he
    unfold begin_
    rw [if_neg he]
    exact this
end Ne
end Go.Proofs.Ytllmddhahpegmaa
