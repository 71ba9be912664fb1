/- carve. -/
import Derived.Test.YtdanhbbdkcbapaaSD
import Derived.Laws.EntriesVeiled
namespace Go.Proofs.Ytdanhbbdkcbapaa
open Go.RowKit
namespace Bu

/-- The sets behind carve. -/
def carveF (Fr : Nat → Nat → Bool) (page order frm : Nat) : Nat → Nat → Bool := halves (upd Fr frm (sdel (Fr frm) (page / 2 ^ frm * 2 ^ frm))) order frm page
def putIn (Gv : Nat → Nat → Bool) (page order : Nat) : Nat → Nat → Bool := upd Gv order (sadd (Gv order) page)

theorem cell_of_block {w w' : World} {b o : Nat} (h : w'.heap[b]? = w.heap[b]?) : w'.cell? ⟨b, o, none⟩ = w.cell? ⟨b, o, none⟩ := World.cell?_of_block (a := ⟨b, o, none⟩) h

set_option maxRecDepth 100000 in
set_option maxHeartbeats 2000000 in
theorem carve_ok (w : World) (b N page order j : Nat) (Fr Gv : Nat → Nat → Bool) (hB : Bu w b N Fr Gv) (hp : page < 1024) (hj : order + j ≤ 10) :
    Calls Try.prog 32 #[.pointer (some ⟨b, 0, none⟩), .int .i64 page, .int .i64 order, .int .i64 ((order + j : Nat) : Int)] w fun e w' => e = .returned (.tuple #[]) ∧ Bu w' b N (carveF Fr page order (order + j)) (putIn Gv page order) ∧ Grow1 b w w' := by
  obtain ⟨a, ha⟩ : ∃ a, a = order + j := ⟨_, rfl⟩
  rw [← ha]
  have hbl := hB.lt
  have hoff : page / 2 ^ a * 2 ^ a < 1024 := Nat.lt_of_le_of_lt (Nat.div_mul_le_self _ _) hp
  -- the three boxes
  obtain ⟨W0, hW0⟩ : ∃ W0, W0 = ((w.alloc (.cells #[.pointer (some ⟨b, 0, none⟩)] 28)).alloc (.cells #[.int .i64 (page : Int)] 3)).alloc (.cells #[.int .i64 (order : Int)] 3) := ⟨_, rfl⟩
  have hs0 : W0.heap.size = w.heap.size + 3 := by rw [hW0]; simp
  have hk0 : ∀ k, k < w.heap.size → W0.heap[k]? = w.heap[k]? := fun k hk => by
    rw [hW0, alloc_old _ _ _ (by simp; omega), alloc_old _ _ _ (by simp; omega), alloc_old _ _ _ hk]
  have x0 : W0.cell? ⟨w.heap.size, 0, none⟩ = some (.pointer (some ⟨b, 0, none⟩)) := by
    refine (one_cell (T := 28) ?_).1
    rw [hW0, heapAlloc, if_neg (by simp; omega), heapAlloc, if_neg (by simp), heapAlloc, if_pos rfl]
  have x1 : W0.cell? ⟨w.heap.size + 1, 0, none⟩ = some (.int .i64 (page : Int)) := by
    refine (one_cell (T := 3) ?_).1
    rw [hW0, heapAlloc, if_neg (by simp), heapAlloc, if_pos (by simp)]
  have x2 : W0.cell? ⟨w.heap.size + 1 + 1, 0, none⟩ = some (.int .i64 (order : Int)) := by
    refine (one_cell (T := 3) ?_).1
    rw [hW0, heapAlloc, if_pos (by simp)]
  have hB0 : Bu W0 b N Fr Gv := hB.keep (hk0 b hbl)
  have hG0 : Grow1 b w W0 := by rw [hW0]; exact (((Grow1.refl b w).alloc _).alloc _).alloc _
  have HP1 := Lib.hid (take_ok W0.drew b (2 + a * 16) (page / 2 ^ a * 2 ^ a) (Fr a) (hB0.free (by omega)) hoff)
  have hB1 : Bu (setW W0.drew b (2 + a * 16) (page / 2 ^ a * 2 ^ a) (sdel (Fr a) (page / 2 ^ a * 2 ^ a))) b N (upd Fr a (sdel (Fr a) (page / 2 ^ a * 2 ^ a))) Gv := hB0.takeF (k := a) (p := page / 2 ^ a * 2 ^ a) (by omega) hoff
  have hG1 := setW_grow W0.drew b (2 + a * 16) (page / 2 ^ a * 2 ^ a) (sdel (Fr a) (page / 2 ^ a * 2 ^ a))
  have hs1 := setW_size W0.drew b (2 + a * 16) (page / 2 ^ a * 2 ^ a) (sdel (Fr a) (page / 2 ^ a * 2 ^ a))
  replace hs1 : (setW W0.drew b (2 + a * 16) (page / 2 ^ a * 2 ^ a) (sdel (Fr a) (page / 2 ^ a * 2 ^ a))).heap.size = w.heap.size + 3 := hs1.trans hs0
  have hf1 : ∀ x, x ≠ b → (setW W0.drew b (2 + a * 16) (page / 2 ^ a * 2 ^ a) (sdel (Fr a) (page / 2 ^ a * 2 ^ a))).heap[x]? = W0.heap[x]? := fun x hx => setW_far _ _ _ _ _ _ hx
  generalize setW W0.drew b (2 + a * 16) (page / 2 ^ a * 2 ^ a) (sdel (Fr a) (page / 2 ^ a * 2 ^ a)) = W1 at *
  -- the box of the closure
  have y0 : ∀ o, (W1.alloc o).cell? ⟨w.heap.size, 0, none⟩ = some (.pointer (some ⟨b, 0, none⟩)) := fun o => (cell_of_block ((alloc_old W1 o _ (by omega)).trans (hf1 _ (by omega)))).trans x0
  have y1 : ∀ o, (W1.alloc o).cell? ⟨w.heap.size + 1, 0, none⟩ = some (.int .i64 (page : Int)) := fun o => (cell_of_block ((alloc_old W1 o _ (by omega)).trans (hf1 _ (by omega)))).trans x1
  have y2 : ∀ o, (W1.alloc o).cell? ⟨w.heap.size + 1 + 1, 0, none⟩ = some (.int .i64 (order : Int)) := fun o => (cell_of_block ((alloc_old W1 o _ (by omega)).trans (hf1 _ (by omega)))).trans x2
  have hB2 : ∀ o, Bu (W1.alloc o) b N (upd Fr a (sdel (Fr a) (page / 2 ^ a * 2 ^ a))) Gv := fun o => hB1.keep (alloc_old W1 o b hB1.lt)
  have hG2 : ∀ o, Grow1 b W1 (W1.alloc o) := fun o => (Grow1.refl b W1).alloc o
  have HH := Lib.hid (halve_ok b N order page (w.heap.size + 1 + 1) w.heap.size (w.heap.size + 1) (w.heap.size + 3) hp (by omega) j (W1.alloc (.cells #[.func (.func 49) #[] #[.pointer (some ⟨w.heap.size + 1 + 1, 0, none⟩), .pointer (some ⟨w.heap.size, 0, none⟩), .pointer (some ⟨w.heap.size + 1, 0, none⟩), .pointer (some ⟨w.heap.size + 3, 0, none⟩)]] 76)) _ Gv hj (hB2 _) (y2 _) (y0 _) (y1 _) (by
    refine (one_cell (T := 76) ?_).1
    rw [heapAlloc, if_pos hs1.symm]))
  rw [← ha] at HH
  have HF := Lib.hid (And.intro hG0 (And.intro hG1 (And.intro hG2 (And.intro y0 (And.intro y1 y2)))))
  have hsz2 : ∀ o, (W1.alloc o).heap.size = w.heap.size + 4 := fun o => by simp; omega
  have ha10 : a ≤ 10 := by omega
  have i1 : (0 : Int) ≤ (a : Int) := by omega
  have i3 : (a : Int) < 11 := by omega
  have i4 : (0 : Int) ≤ (order : Int) := by omega
  have i5 : (order : Int) < 11 := by omega
  have ho11 : order < 11 := by omega
  have HS2 := Lib.hid hsz2
  clear hB hB0 hB1 hB2 hG0 hG1 hG2 hk0 hf1 y0 y1 y2 ha hj hoff hsz2
  go_enter Try.func32, Try.ntmps32
  go_wp2_with fail
  rw [← hW0]
  clear hW0
  go_cut [19] from 9 to 19 (fun _ wx => wx = W1)
  case first =>
    go_region_with ((go_at_call 36; rw [off_val page a hp ha10]; refine HP1.out.mono ?_; rintro e w3 ⟨rfl, rfl⟩))
    all_goals
      go_wp2_with (fail)
      go_meet
      rfl
  case rest =>
    rw [hcut]
    clear hcut
    have hW1b : b < W1.heap.size := by omega
    go_wp2_with (go_at_call 49; fail)
    refine HH.out.mono ?_
    rintro e w4 ⟨rfl, hB4, hg4⟩
    have hgs := hg4.size
    have z0 := (cell_of_block (o := 0) (hg4.block w.heap.size (by rw [HS2.out]; omega) (by omega))).trans (HF.out.2.2.2.1 _)
    have z1 := (cell_of_block (o := 0) (hg4.block (w.heap.size + 1) (by rw [HS2.out]; omega) (by omega))).trans (HF.out.2.2.2.2.1 _)
    have z2 := (cell_of_block (o := 0) (hg4.block (w.heap.size + 1 + 1) (by rw [HS2.out]; omega) (by omega))).trans (HF.out.2.2.2.2.2 _)
    have HP2 := Lib.hid (put_ok w4.drew b (178 + order * 16) page (Gv order) (hB4.given ho11) hp)
    have HB5 := Lib.hid (And.intro (Bu.putG (w := w4.drew) hB4.drew (k := order) (p := page) ho11 hp) hg4)
    clear hB4 hg4 hgs
    go_wp2_with fail
    go_region_with ((go_at_call 37; refine HP2.out.mono ?_; rintro e w5 ⟨rfl, rfl⟩))
    all_goals
      go_wp2
      go_end0
      exact ⟨rfl, HB5.out.1, HF.out.1.trans ((Grow1.refl b W0).drew.trans (HF.out.2.1.trans ((HF.out.2.2.1 _).trans (HB5.out.2.trans ((Grow1.refl b w4).drew.trans (setW_grow _ _ _ _ _))))))⟩
end Bu
end Go.Proofs.Ytdanhbbdkcbapaa
