/- step: what it leaves; Alloc. -/
import Derived.Test.YtdanhbbdkcbapaaJOT
import Derived.Outline
import Derived.Deep.QuietTactic
import Derived.BigQuiet
namespace Go.Proofs.Ytdanhbbdkcbapaa
open Go.RowKit
namespace Bu

/-- A slice's block lies in the world, and is not the allocator's. -/
def Lies (w : World) (b : Nat) (A : Option Addr) : Prop := ∀ g, A.map (·.block) = some g → g < w.heap.size ∧ g ≠ b
theorem Lies.ne {w : World} {b : Nat} {A : Option Addr} (h : Lies w b A) : A.map (·.block) ≠ some b := fun e => (h b e).2 rfl

/-- What a call of both leaves. -/
def StepR (N : Nat) (w : World) (b : Nat) (A : Option Addr) (e : Ending) (w' : World) : Prop :=
  ∃ b' A' c' L', e = .returned (.tuple #[.pointer (some ⟨b', 0, none⟩), sv N A' (L' : List Blk).length c', .int .i64 0]) ∧ BuL w' b' N L' ∧ BlkAt w' A' c' L' ∧ Lies w' b' A' ∧ (b' = b ∨ w.heap.size ≤ b') ∧ (A' = A ∨ ∀ g, A'.map (·.block) = some g → w.heap.size ≤ g) ∧ Grow1 b w w'

/-- The three boxes of step. -/
theorem step_boxes (w : World) (x y p q r : Value) :
    let W := ((w.alloc (.cells #[x, y] 24)).alloc (.cells #[p, q, r] 66)).alloc (.cells #[.int .i64 0, .slice none 0 0] 24)
    W.heap.size = w.heap.size + 3 ∧ W.heap[w.heap.size]? = some (.cells #[x, y] 24 (0, 0)) ∧ W.heap[w.heap.size + 1]? = some (.cells #[p, q, r] 66 (0, 0)) ∧
      W.heap[w.heap.size + 1 + 1]? = some (.cells #[.int .i64 0, .slice none 0 0] 24 (0, 0)) ∧ Below w.heap.size w W := by
  refine ⟨by simp, ?_, ?_, ?_, ((below_box w _).alloc (by simp) _).alloc (by simp; omega) _⟩
  · rw [alloc_old _ _ _ (by simp <;> omega), alloc_old _ _ _ (by simp <;> omega), heapAlloc, if_pos rfl]
  · rw [alloc_old _ _ _ (by simp <;> omega), heapAlloc, if_pos (by simp <;> omega)]
  · rw [heapAlloc, if_pos (by simp <;> omega)]
theorem act_cells {w : World} {b T : Nat} {x y z : Value} (h : w.heap[b]? = some (.cells #[x, y, z] T (0, 0))) : w.cell? ⟨b, 0, none⟩ = some x ∧ w.cell? ⟨b, 1, none⟩ = some y ∧ w.cell? ⟨b, 2, none⟩ = some z := by
  refine ⟨?_, ?_, ?_⟩ <;> simp [World.cell?, h]
theorem heap_grow {b : Nat} {w1 w2 : World} (hg : Grow1 b w1 w2) {g : Nat} {o : Obj} (hne : g ≠ b) (h : w1.heap[g]? = some o) : w2.heap[g]? = some o := (hg.block g (lt_of_heap h) hne).trans h
/-- All but two blocks stay. -/
structure Tw (x y : Nat) (w w' : World) : Prop where
  os : w'.os = w.os
  tape : w'.tape = w.tape
  output : w'.output = w.output
  size : w.heap.size ≤ w'.heap.size
  block : ∀ k, k < w.heap.size → k ≠ x → k ≠ y → w'.heap[k]? = w.heap[k]?
theorem Tw.refl (x y : Nat) (w : World) : Tw x y w w := ⟨rfl, rfl, rfl, Nat.le_refl _, fun _ _ _ _ => rfl⟩
theorem Tw.setX {x y : Nat} {a b : World} (h : Tw x y a b) (o : Nat) (v : Value) : Tw x y a (b.setCell ⟨x, o, none⟩ v) :=
  ⟨h.os, h.tape, h.output, by rw [setCell_size]; exact h.size, fun k hk h1 h2 => (setCell_far _ _ _ _ h1).trans (h.block k hk h1 h2)⟩
theorem Tw.setY {x y : Nat} {a b : World} (h : Tw x y a b) (o : Nat) (v : Value) : Tw x y a (b.setCell ⟨y, o, none⟩ v) :=
  ⟨h.os, h.tape, h.output, by rw [setCell_size]; exact h.size, fun k hk h1 h2 => (setCell_far _ _ _ _ h2).trans (h.block k hk h1 h2)⟩
theorem Tw.alloc {x y : Nat} {a b : World} (h : Tw x y a b) (o : Obj) : Tw x y a (b.alloc o) :=
  ⟨h.os, h.tape, h.output, by have := h.size; simp; omega, fun k hk h1 h2 => (alloc_old _ _ _ (by have := h.size; omega)).trans (h.block k hk h1 h2)⟩
theorem Tw.drew {x y : Nat} {a b : World} (h : Tw x y a b) : Tw x y a b.drew := ⟨h.os, h.tape, h.output, h.size, h.block⟩
theorem Tw.below {x y : Nat} {a b c : World} (h : Tw x y a b) (hb : Below b.heap.size b c) : Tw x y a c :=
  ⟨hb.os.trans h.os, hb.tape.trans h.tape, hb.output.trans h.output, Nat.le_trans h.size hb.size, fun k hk h1 h2 => (hb.block k (by have := h.size; omega)).trans (h.block k hk h1 h2)⟩

theorem grow_of_below {b : Nat} {w w' : World} (h : Below w.heap.size w w') : Grow1 b w w' := ⟨h.os, h.tape, h.output, h.size, fun k hk _ => h.block k hk⟩

/-- How step ends where the state is as it was. -/
theorem step_same {w wk Wf : World} {b b' N c : Nat} {A : Option Addr} {L : List Blk} (hA : BlkAt w A c L) (hne : Lies w b A) (hb' : b' = b ∨ w.heap.size ≤ b') (hg : Below w.heap.size w wk) (hB : BuL wk b' N L) (hb : b < w.heap.size) (hx : b' ≠ w.heap.size ∧ b' ≠ w.heap.size + 1 + 1) (hT : Tw w.heap.size (w.heap.size + 1 + 1) wk Wf) :
    BuL Wf b' N L ∧ BlkAt Wf A c L ∧ Lies Wf b' A ∧ (b' = b ∨ w.heap.size ≤ b') ∧ (A = A ∨ ∀ g, A.map (·.block) = some g → w.heap.size ≤ g) ∧ Grow1 b w Wf := by
  have hgs := hg.size
  have hts := hT.size
  have hbf : Below w.heap.size w Wf := hg.trans ⟨hT.os, hT.tape, hT.output, hT.size, fun k hk => hT.block k (by omega) (by omega) (by omega)⟩
  refine ⟨hB.keep (hT.block b' hB.lt hx.1 hx.2), hA.below hbf, fun g e => ?_, hb', .inl rfl, grow_of_below hbf⟩
  have := hne g e
  exact ⟨by omega, by omega⟩

/-- How step ends: the boxes are written. -/
theorem step_fin {w w4 w5 Wf : World} {b N c c' : Nat} {A A' : Option Addr} {L L1 : List Blk} (hA : BlkAt w A c L) (hne : Lies w b A) (hb : b < w.heap.size) (hN : NewS w4 w5 A c L A' c' L1) (h4 : w.heap.size + 3 ≤ w4.heap.size)
    (hg : Grow1 b w w5) (hB : BuL w5 b N L1) (hT : Tw w.heap.size (w.heap.size + 1 + 1) w5 Wf) :
    BuL Wf b N L1 ∧ BlkAt Wf A' c' L1 ∧ Lies Wf b A' ∧ (b = b ∨ w.heap.size ≤ b) ∧ (A' = A ∨ ∀ g, A'.map (·.block) = some g → w.heap.size ≤ g) ∧ Grow1 b w Wf := by
  have hgf : Grow1 b w Wf := ⟨hT.os.trans hg.os, hT.tape.trans hg.tape, hT.output.trans hg.output, Nat.le_trans hg.size hT.size, fun k hk hn => (hT.block k (by have := hg.size; omega) (by omega) (by omega)).trans (hg.block k hk hn)⟩
  refine ⟨hB.keep (hT.block b hB.lt (by omega) (by omega)), ?_, ?_, .inl rfl, ?_, hgf⟩
  · rcases hN with ⟨rfl, rfl, rfl⟩ | ho
    · exact hA.grow hgf hne.ne
    · have ho' : Own Wf w4.heap.size A' c' L1 := row_keep ho fun g h1 h2 => hT.block g h2 (by omega) (by omega)
      exact ho'.at.1
  · rcases hN with ⟨rfl, _⟩ | ho
    · exact fun g e => ⟨by have := (hne g e).1; have := hgf.size; omega, (hne g e).2⟩
    · exact fun g e => by have := ho.at.2 g e; have := hT.size; exact ⟨by omega, by omega⟩
  · rcases hN with ⟨rfl, _⟩ | ho
    · exact .inl rfl
    · exact .inr fun g e => by have := (ho.at.2 g e).1; omega
theorem heap_below {w1 w2 : World} (hb : Below w1.heap.size w1 w2) {g : Nat} {o : Obj} (h : w1.heap[g]? = some o) : w2.heap[g]? = some o := (hb.block g (lt_of_heap h)).trans h

set_option maxRecDepth 100000 in
set_option maxHeartbeats 4000000 in
theorem step0 (w : World) (b N : Nat) (A : Option Addr) (c : Nat) (L : List Blk) (what : Int) (page order : Int) (hw : what % 10 = 0) (hw0 : 0 ≤ what) (hw1 : what < 256) (hB : BuL w b N L) (hA : BlkAt w A c L) (hne : Lies w b A) :
    Calls Try.prog 27 #[.pointer (some ⟨b, 0, none⟩), sv N A L.length c, .agg #[.int .u8 what, .int .i64 page, .int .i64 order]] w fun e w' => StepR N w b A e w' := by
  have hbl := hB.lt
  have hbx := step_boxes w (.int .i64 (N : Int)) (.slice A L.length c) (.int .u8 what) (.int .i64 page) (.int .i64 order)
  dsimp only at hbx
  obtain ⟨W3, hW3⟩ : ∃ W3, W3 = ((w.alloc (.cells #[.int .i64 (N : Int), .slice A L.length c] 24)).alloc (.cells #[.int .u8 what, .int .i64 page, .int .i64 order] 66)).alloc (.cells #[.int .i64 0, .slice none 0 0] 24) := ⟨_, rfl⟩
  rw [← hW3] at hbx
  obtain ⟨hs3, g0, g1, g2, hb3⟩ := hbx
  have hB3 : BuL W3 b N L := hB.keep (hb3.block b hbl)
  have hA3 : BlkAt W3 A c L := hA.below hb3
  have hne0 : w.heap.size ≠ b := by omega
  have hne1 : w.heap.size + 1 ≠ b := by omega
  have hne2 : w.heap.size + 1 + 1 ≠ b := by omega
  obtain ⟨s0, s1, _, _⟩ := two_cells g0
  obtain ⟨a0, a1, a2⟩ := act_cells g1
  have HX := Lib.hid (And.intro hB3 (And.intro hA3 (And.intro hb3 (And.intro hA (And.intro hne (And.intro g0 (And.intro g1 g2)))))))
  have HW := Lib.hid hW3
  clear hB hA hne hB3 hA3 hb3 g0 g1 g2 hW3
  obtain ⟨⟨p, r, L1⟩, ho⟩ : ∃ o, o = alO N L order := ⟨_, rfl⟩
  have h1 := al_both W3 b N L order HX.out.1
  rw [← ho] at h1
  have h2 := fun W (h : BlkAt W A c L) => alR_both W N A c L order h HX.out.1.2
  rw [← ho] at h2
  have H1 := Lib.hid h1
  have H2 := Lib.hid h2
  clear h1 h2 ho
  go_enter Try.func27, Try.ntmps27
  go_wp2_with (fail)
  rw [← HW.out]
  go_wp2_with (first
    | (go_at_call 14; refine H1.out.mono ?_; rintro e w4 ⟨rfl, hB4, hg4⟩
       have n0 := heap_grow hg4 hne0 HX.out.2.2.2.2.2.1
       have n1 := heap_grow hg4 hne1 HX.out.2.2.2.2.2.2.1
       have n2 := heap_grow hg4 hne2 HX.out.2.2.2.2.2.2.2
       obtain ⟨s0, s1, _, _⟩ := two_cells n0
       obtain ⟨a0, a1, a2⟩ := act_cells n1
       have H4 := Lib.hid (And.intro hB4 (And.intro hg4 (And.intro n0 n2)))
       clear hB4 hg4 n0 n1 n2)
    | (go_at_call 39; refine (H2.out _ (HX.out.2.1.grow H4.out.2.1 HX.out.2.2.2.2.1.ne)).mono ?_; rintro e w5 ⟨A', c', rfl, hN5, hb5⟩
       have n0 := heap_below hb5 H4.out.2.2.1
       have n2 := heap_below hb5 H4.out.2.2.2
       have hl0 := lt_of_heap n0
       have hl2 := lt_of_heap n2
       obtain ⟨s0, s1, f0, f1⟩ := two_cells n0
       obtain ⟨z0, z1, f2, f3⟩ := two_cells n2
       obtain ⟨v0, v1⟩ := state_cells w5 (.int .i64 (N : Int)) (.slice A' L1.length c') 24
       have H5 := Lib.hid (And.intro hN5 (And.intro hb5 (And.intro n0 n2)))
       clear hN5 hb5 n0 n2))
  have hT : Tw w.heap.size (w.heap.size + 1 + 1) w5 (((w5.setCell ⟨w.heap.size, 0, none⟩ (.int .i64 (N : Int))).setCell ⟨w.heap.size, 1, none⟩ (.slice A' L1.length c')).alloc (.cells #[.int .i64 (N : Int), .slice A' L1.length c'] 24)) := (((Tw.refl _ _ _).setX _ _).setX _ _).alloc _
  have m0 : ((((w5.setCell ⟨w.heap.size, 0, none⟩ (.int .i64 (N : Int))).setCell ⟨w.heap.size, 1, none⟩ (.slice A' L1.length c')).alloc (.cells #[.int .i64 (N : Int), .slice A' L1.length c'] 24))).heap[w.heap.size]? = some (.cells #[.int .i64 (N : Int), .slice A' L1.length c'] 24 (0, 0)) := (alloc_old _ _ _ (by rw [setCell_size, setCell_size]; omega)).trans (two_set H5.out.2.2.1 _ _)
  have m2 : ((((w5.setCell ⟨w.heap.size, 0, none⟩ (.int .i64 (N : Int))).setCell ⟨w.heap.size, 1, none⟩ (.slice A' L1.length c')).alloc (.cells #[.int .i64 (N : Int), .slice A' L1.length c'] 24))).heap[w.heap.size + 1 + 1]? = some (.cells #[.int .i64 0, .slice none 0 0] 24 (0, 0)) := (alloc_old _ _ _ (by rw [setCell_size, setCell_size]; omega)).trans ((setCell_far _ _ _ _ (by show w.heap.size + 1 + 1 ≠ w.heap.size; omega)).trans ((setCell_far _ _ _ _ (by show w.heap.size + 1 + 1 ≠ w.heap.size; omega)).trans H5.out.2.2.2))
  generalize (((w5.setCell ⟨w.heap.size, 0, none⟩ (.int .i64 (N : Int))).setCell ⟨w.heap.size, 1, none⟩ (.slice A' L1.length c')).alloc (.cells #[.int .i64 (N : Int), .slice A' L1.length c'] 24)) = Wd at *
  obtain ⟨s0, s1, f0, f1⟩ := two_cells m0
  obtain ⟨z0, z1, f2, f3⟩ := two_cells m2
  have HT := Lib.hid (And.intro hT m2)
  clear hT m0 m2
  go_region
  all_goals
    go_wp2_with (fail)
    obtain ⟨q0, q1, _, _⟩ := two_cells (two_set (w := Wd.drew) HT.out.2 (.int .i64 (N : Int)) (.slice A' L1.length c'))
    refine bodyPost_ret (v := .tuple #[.pointer (some ⟨b, 0, none⟩), sv N A' L1.length c', .int .i64 0]) (by simp [results, Try.results27, go_sem, q0, q1, z0, z1]) rfl ⟨b, A', c', L1, rfl, ?_⟩
    exact step_fin HX.out.2.2.2.1 HX.out.2.2.2.2.1 hbl H5.out.1 (by have := H4.out.2.1.size; omega) (((grow_of_below HX.out.2.2.1).trans H4.out.2.1).trans (grow_of_below H5.out.2.1)) (H4.out.1.keep (H5.out.2.1.block _ H4.out.1.lt)) ((HT.out.1.drew.setY _ _).setY _ _)

set_option maxRecDepth 100000 in
set_option maxHeartbeats 4000000 in
theorem step1 (w : World) (b N : Nat) (A : Option Addr) (c : Nat) (L : List Blk) (what : Int) (page order : Int) (hw : what % 10 = 1) (hw0 : 0 ≤ what) (hw1 : what < 256) (hB : BuL w b N L) (hA : BlkAt w A c L) (hne : Lies w b A) :
    Calls Try.prog 27 #[.pointer (some ⟨b, 0, none⟩), sv N A L.length c, .agg #[.int .u8 what, .int .i64 page, .int .i64 order]] w fun e w' => StepR N w b A e w' := by
  have hbl := hB.lt
  have hbx := step_boxes w (.int .i64 (N : Int)) (.slice A L.length c) (.int .u8 what) (.int .i64 page) (.int .i64 order)
  dsimp only at hbx
  obtain ⟨W3, hW3⟩ : ∃ W3, W3 = ((w.alloc (.cells #[.int .i64 (N : Int), .slice A L.length c] 24)).alloc (.cells #[.int .u8 what, .int .i64 page, .int .i64 order] 66)).alloc (.cells #[.int .i64 0, .slice none 0 0] 24) := ⟨_, rfl⟩
  rw [← hW3] at hbx
  obtain ⟨hs3, g0, g1, g2, hb3⟩ := hbx
  have hB3 : BuL W3 b N L := hB.keep (hb3.block b hbl)
  have hA3 : BlkAt W3 A c L := hA.below hb3
  have hne0 : w.heap.size ≠ b := by omega
  have hne1 : w.heap.size + 1 ≠ b := by omega
  have hne2 : w.heap.size + 1 + 1 ≠ b := by omega
  obtain ⟨s0, s1, _, _⟩ := two_cells g0
  obtain ⟨a0, a1, a2⟩ := act_cells g1
  have HX := Lib.hid (And.intro hB3 (And.intro hA3 (And.intro hb3 (And.intro hA (And.intro hne (And.intro g0 (And.intro g1 g2)))))))
  have HW := Lib.hid hW3
  clear hB hA hne hB3 hA3 hb3 g0 g1 g2 hW3
  obtain ⟨⟨p, r, L1⟩, ho⟩ : ∃ o, o = alO N L order := ⟨_, rfl⟩
  have h1 := al_both W3 b N L order HX.out.1
  rw [← ho] at h1
  have h2 := fun W (h : BlkAt W A c L) => alR_both W N A c L order h HX.out.1.2
  rw [← ho] at h2
  have H1 := Lib.hid h1
  have H2 := Lib.hid h2
  clear h1 h2 ho
  go_enter Try.func27, Try.ntmps27
  go_wp2_with (fail)
  rw [← HW.out]
  go_wp2_with (first
    | (go_at_call 14; refine H1.out.mono ?_; rintro e w4 ⟨rfl, hB4, hg4⟩
       have n0 := heap_grow hg4 hne0 HX.out.2.2.2.2.2.1
       have n1 := heap_grow hg4 hne1 HX.out.2.2.2.2.2.2.1
       have n2 := heap_grow hg4 hne2 HX.out.2.2.2.2.2.2.2
       obtain ⟨s0, s1, _, _⟩ := two_cells n0
       obtain ⟨a0, a1, a2⟩ := act_cells n1
       have H4 := Lib.hid (And.intro hB4 (And.intro hg4 (And.intro n0 n2)))
       clear hB4 hg4 n0 n1 n2)
    | (go_at_call 39; refine (H2.out _ (HX.out.2.1.grow H4.out.2.1 HX.out.2.2.2.2.1.ne)).mono ?_; rintro e w5 ⟨A', c', rfl, hN5, hb5⟩
       have n0 := heap_below hb5 H4.out.2.2.1
       have n2 := heap_below hb5 H4.out.2.2.2
       have hl0 := lt_of_heap n0
       have hl2 := lt_of_heap n2
       obtain ⟨s0, s1, f0, f1⟩ := two_cells n0
       obtain ⟨z0, z1, f2, f3⟩ := two_cells n2
       obtain ⟨v0, v1⟩ := state_cells w5 (.int .i64 (N : Int)) (.slice A' L1.length c') 24
       have H5 := Lib.hid (And.intro hN5 (And.intro hb5 (And.intro n0 n2)))
       clear hN5 hb5 n0 n2))
  have hT : Tw w.heap.size (w.heap.size + 1 + 1) w5 (((w5.setCell ⟨w.heap.size, 0, none⟩ (.int .i64 (N : Int))).setCell ⟨w.heap.size, 1, none⟩ (.slice A' L1.length c')).alloc (.cells #[.int .i64 (N : Int), .slice A' L1.length c'] 24)) := (((Tw.refl _ _ _).setX _ _).setX _ _).alloc _
  have m0 : ((((w5.setCell ⟨w.heap.size, 0, none⟩ (.int .i64 (N : Int))).setCell ⟨w.heap.size, 1, none⟩ (.slice A' L1.length c')).alloc (.cells #[.int .i64 (N : Int), .slice A' L1.length c'] 24))).heap[w.heap.size]? = some (.cells #[.int .i64 (N : Int), .slice A' L1.length c'] 24 (0, 0)) := (alloc_old _ _ _ (by rw [setCell_size, setCell_size]; omega)).trans (two_set H5.out.2.2.1 _ _)
  have m2 : ((((w5.setCell ⟨w.heap.size, 0, none⟩ (.int .i64 (N : Int))).setCell ⟨w.heap.size, 1, none⟩ (.slice A' L1.length c')).alloc (.cells #[.int .i64 (N : Int), .slice A' L1.length c'] 24))).heap[w.heap.size + 1 + 1]? = some (.cells #[.int .i64 0, .slice none 0 0] 24 (0, 0)) := (alloc_old _ _ _ (by rw [setCell_size, setCell_size]; omega)).trans ((setCell_far _ _ _ _ (by show w.heap.size + 1 + 1 ≠ w.heap.size; omega)).trans ((setCell_far _ _ _ _ (by show w.heap.size + 1 + 1 ≠ w.heap.size; omega)).trans H5.out.2.2.2))
  generalize (((w5.setCell ⟨w.heap.size, 0, none⟩ (.int .i64 (N : Int))).setCell ⟨w.heap.size, 1, none⟩ (.slice A' L1.length c')).alloc (.cells #[.int .i64 (N : Int), .slice A' L1.length c'] 24)) = Wd at *
  obtain ⟨s0, s1, f0, f1⟩ := two_cells m0
  obtain ⟨z0, z1, f2, f3⟩ := two_cells m2
  have HT := Lib.hid (And.intro hT m2)
  clear hT m0 m2
  go_region
  all_goals
    go_wp2_with (fail)
    obtain ⟨q0, q1, _, _⟩ := two_cells (two_set (w := Wd.drew) HT.out.2 (.int .i64 (N : Int)) (.slice A' L1.length c'))
    refine bodyPost_ret (v := .tuple #[.pointer (some ⟨b, 0, none⟩), sv N A' L1.length c', .int .i64 0]) (by simp [results, Try.results27, go_sem, q0, q1, z0, z1]) rfl ⟨b, A', c', L1, rfl, ?_⟩
    exact step_fin HX.out.2.2.2.1 HX.out.2.2.2.2.1 hbl H5.out.1 (by have := H4.out.2.1.size; omega) (((grow_of_below HX.out.2.2.1).trans H4.out.2.1).trans (grow_of_below H5.out.2.1)) (H4.out.1.keep (H5.out.2.1.block _ H4.out.1.lt)) ((HT.out.1.drew.setY _ _).setY _ _)

set_option maxRecDepth 100000 in
set_option maxHeartbeats 4000000 in
theorem step2 (w : World) (b N : Nat) (A : Option Addr) (c : Nat) (L : List Blk) (what : Int) (page order : Int) (hw : what % 10 = 2) (hw0 : 0 ≤ what) (hw1 : what < 256) (hB : BuL w b N L) (hA : BlkAt w A c L) (hne : Lies w b A) :
    Calls Try.prog 27 #[.pointer (some ⟨b, 0, none⟩), sv N A L.length c, .agg #[.int .u8 what, .int .i64 page, .int .i64 order]] w fun e w' => StepR N w b A e w' := by
  have hbl := hB.lt
  have hbx := step_boxes w (.int .i64 (N : Int)) (.slice A L.length c) (.int .u8 what) (.int .i64 page) (.int .i64 order)
  dsimp only at hbx
  obtain ⟨W3, hW3⟩ : ∃ W3, W3 = ((w.alloc (.cells #[.int .i64 (N : Int), .slice A L.length c] 24)).alloc (.cells #[.int .u8 what, .int .i64 page, .int .i64 order] 66)).alloc (.cells #[.int .i64 0, .slice none 0 0] 24) := ⟨_, rfl⟩
  rw [← hW3] at hbx
  obtain ⟨hs3, g0, g1, g2, hb3⟩ := hbx
  have hB3 : BuL W3 b N L := hB.keep (hb3.block b hbl)
  have hA3 : BlkAt W3 A c L := hA.below hb3
  have hne0 : w.heap.size ≠ b := by omega
  have hne1 : w.heap.size + 1 ≠ b := by omega
  have hne2 : w.heap.size + 1 + 1 ≠ b := by omega
  obtain ⟨s0, s1, _, _⟩ := two_cells g0
  obtain ⟨a0, a1, a2⟩ := act_cells g1
  have HX := Lib.hid (And.intro hB3 (And.intro hA3 (And.intro hb3 (And.intro hA (And.intro hne (And.intro g0 (And.intro g1 g2)))))))
  have HW := Lib.hid hW3
  clear hB hA hne hB3 hA3 hb3 g0 g1 g2 hW3
  obtain ⟨⟨p, r, L1⟩, ho⟩ : ∃ o, o = alO N L order := ⟨_, rfl⟩
  have h1 := al_both W3 b N L order HX.out.1
  rw [← ho] at h1
  have h2 := fun W (h : BlkAt W A c L) => alR_both W N A c L order h HX.out.1.2
  rw [← ho] at h2
  have H1 := Lib.hid h1
  have H2 := Lib.hid h2
  clear h1 h2 ho
  go_enter Try.func27, Try.ntmps27
  go_wp2_with (fail)
  rw [← HW.out]
  go_wp2_with (first
    | (go_at_call 14; refine H1.out.mono ?_; rintro e w4 ⟨rfl, hB4, hg4⟩
       have n0 := heap_grow hg4 hne0 HX.out.2.2.2.2.2.1
       have n1 := heap_grow hg4 hne1 HX.out.2.2.2.2.2.2.1
       have n2 := heap_grow hg4 hne2 HX.out.2.2.2.2.2.2.2
       obtain ⟨s0, s1, _, _⟩ := two_cells n0
       obtain ⟨a0, a1, a2⟩ := act_cells n1
       have H4 := Lib.hid (And.intro hB4 (And.intro hg4 (And.intro n0 n2)))
       clear hB4 hg4 n0 n1 n2)
    | (go_at_call 39; refine (H2.out _ (HX.out.2.1.grow H4.out.2.1 HX.out.2.2.2.2.1.ne)).mono ?_; rintro e w5 ⟨A', c', rfl, hN5, hb5⟩
       have n0 := heap_below hb5 H4.out.2.2.1
       have n2 := heap_below hb5 H4.out.2.2.2
       have hl0 := lt_of_heap n0
       have hl2 := lt_of_heap n2
       obtain ⟨s0, s1, f0, f1⟩ := two_cells n0
       obtain ⟨z0, z1, f2, f3⟩ := two_cells n2
       obtain ⟨v0, v1⟩ := state_cells w5 (.int .i64 (N : Int)) (.slice A' L1.length c') 24
       have H5 := Lib.hid (And.intro hN5 (And.intro hb5 (And.intro n0 n2)))
       clear hN5 hb5 n0 n2))
  have hT : Tw w.heap.size (w.heap.size + 1 + 1) w5 (((w5.setCell ⟨w.heap.size, 0, none⟩ (.int .i64 (N : Int))).setCell ⟨w.heap.size, 1, none⟩ (.slice A' L1.length c')).alloc (.cells #[.int .i64 (N : Int), .slice A' L1.length c'] 24)) := (((Tw.refl _ _ _).setX _ _).setX _ _).alloc _
  have m0 : ((((w5.setCell ⟨w.heap.size, 0, none⟩ (.int .i64 (N : Int))).setCell ⟨w.heap.size, 1, none⟩ (.slice A' L1.length c')).alloc (.cells #[.int .i64 (N : Int), .slice A' L1.length c'] 24))).heap[w.heap.size]? = some (.cells #[.int .i64 (N : Int), .slice A' L1.length c'] 24 (0, 0)) := (alloc_old _ _ _ (by rw [setCell_size, setCell_size]; omega)).trans (two_set H5.out.2.2.1 _ _)
  have m2 : ((((w5.setCell ⟨w.heap.size, 0, none⟩ (.int .i64 (N : Int))).setCell ⟨w.heap.size, 1, none⟩ (.slice A' L1.length c')).alloc (.cells #[.int .i64 (N : Int), .slice A' L1.length c'] 24))).heap[w.heap.size + 1 + 1]? = some (.cells #[.int .i64 0, .slice none 0 0] 24 (0, 0)) := (alloc_old _ _ _ (by rw [setCell_size, setCell_size]; omega)).trans ((setCell_far _ _ _ _ (by show w.heap.size + 1 + 1 ≠ w.heap.size; omega)).trans ((setCell_far _ _ _ _ (by show w.heap.size + 1 + 1 ≠ w.heap.size; omega)).trans H5.out.2.2.2))
  generalize (((w5.setCell ⟨w.heap.size, 0, none⟩ (.int .i64 (N : Int))).setCell ⟨w.heap.size, 1, none⟩ (.slice A' L1.length c')).alloc (.cells #[.int .i64 (N : Int), .slice A' L1.length c'] 24)) = Wd at *
  obtain ⟨s0, s1, f0, f1⟩ := two_cells m0
  obtain ⟨z0, z1, f2, f3⟩ := two_cells m2
  have HT := Lib.hid (And.intro hT m2)
  clear hT m0 m2
  go_region
  all_goals
    go_wp2_with (fail)
    obtain ⟨q0, q1, _, _⟩ := two_cells (two_set (w := Wd.drew) HT.out.2 (.int .i64 (N : Int)) (.slice A' L1.length c'))
    refine bodyPost_ret (v := .tuple #[.pointer (some ⟨b, 0, none⟩), sv N A' L1.length c', .int .i64 0]) (by simp [results, Try.results27, go_sem, q0, q1, z0, z1]) rfl ⟨b, A', c', L1, rfl, ?_⟩
    exact step_fin HX.out.2.2.2.1 HX.out.2.2.2.2.1 hbl H5.out.1 (by have := H4.out.2.1.size; omega) (((grow_of_below HX.out.2.2.1).trans H4.out.2.1).trans (grow_of_below H5.out.2.1)) (H4.out.1.keep (H5.out.2.1.block _ H4.out.1.lt)) ((HT.out.1.drew.setY _ _).setY _ _)

set_option maxRecDepth 100000 in
set_option maxHeartbeats 4000000 in
theorem step3 (w : World) (b N : Nat) (A : Option Addr) (c : Nat) (L : List Blk) (what : Int) (page order : Int) (hw : what % 10 = 3) (hw0 : 0 ≤ what) (hw1 : what < 256) (hB : BuL w b N L) (hA : BlkAt w A c L) (hne : Lies w b A) :
    Calls Try.prog 27 #[.pointer (some ⟨b, 0, none⟩), sv N A L.length c, .agg #[.int .u8 what, .int .i64 page, .int .i64 order]] w fun e w' => StepR N w b A e w' := by
  have hbl := hB.lt
  have hbx := step_boxes w (.int .i64 (N : Int)) (.slice A L.length c) (.int .u8 what) (.int .i64 page) (.int .i64 order)
  dsimp only at hbx
  obtain ⟨W3, hW3⟩ : ∃ W3, W3 = ((w.alloc (.cells #[.int .i64 (N : Int), .slice A L.length c] 24)).alloc (.cells #[.int .u8 what, .int .i64 page, .int .i64 order] 66)).alloc (.cells #[.int .i64 0, .slice none 0 0] 24) := ⟨_, rfl⟩
  rw [← hW3] at hbx
  obtain ⟨hs3, g0, g1, g2, hb3⟩ := hbx
  have hB3 : BuL W3 b N L := hB.keep (hb3.block b hbl)
  have hA3 : BlkAt W3 A c L := hA.below hb3
  have hne0 : w.heap.size ≠ b := by omega
  have hne1 : w.heap.size + 1 ≠ b := by omega
  have hne2 : w.heap.size + 1 + 1 ≠ b := by omega
  obtain ⟨s0, s1, _, _⟩ := two_cells g0
  obtain ⟨a0, a1, a2⟩ := act_cells g1
  have HX := Lib.hid (And.intro hB3 (And.intro hA3 (And.intro hb3 (And.intro hA (And.intro hne (And.intro g0 (And.intro g1 g2)))))))
  have HW := Lib.hid hW3
  clear hB hA hne hB3 hA3 hb3 g0 g1 g2 hW3
  obtain ⟨⟨p, r, L1⟩, ho⟩ : ∃ o, o = alO N L order := ⟨_, rfl⟩
  have h1 := al_both W3 b N L order HX.out.1
  rw [← ho] at h1
  have h2 := fun W (h : BlkAt W A c L) => alR_both W N A c L order h HX.out.1.2
  rw [← ho] at h2
  have H1 := Lib.hid h1
  have H2 := Lib.hid h2
  clear h1 h2 ho
  go_enter Try.func27, Try.ntmps27
  go_wp2_with (fail)
  rw [← HW.out]
  go_wp2_with (first
    | (go_at_call 14; refine H1.out.mono ?_; rintro e w4 ⟨rfl, hB4, hg4⟩
       have n0 := heap_grow hg4 hne0 HX.out.2.2.2.2.2.1
       have n1 := heap_grow hg4 hne1 HX.out.2.2.2.2.2.2.1
       have n2 := heap_grow hg4 hne2 HX.out.2.2.2.2.2.2.2
       obtain ⟨s0, s1, _, _⟩ := two_cells n0
       obtain ⟨a0, a1, a2⟩ := act_cells n1
       have H4 := Lib.hid (And.intro hB4 (And.intro hg4 (And.intro n0 n2)))
       clear hB4 hg4 n0 n1 n2)
    | (go_at_call 39; refine (H2.out _ (HX.out.2.1.grow H4.out.2.1 HX.out.2.2.2.2.1.ne)).mono ?_; rintro e w5 ⟨A', c', rfl, hN5, hb5⟩
       have n0 := heap_below hb5 H4.out.2.2.1
       have n2 := heap_below hb5 H4.out.2.2.2
       have hl0 := lt_of_heap n0
       have hl2 := lt_of_heap n2
       obtain ⟨s0, s1, f0, f1⟩ := two_cells n0
       obtain ⟨z0, z1, f2, f3⟩ := two_cells n2
       obtain ⟨v0, v1⟩ := state_cells w5 (.int .i64 (N : Int)) (.slice A' L1.length c') 24
       have H5 := Lib.hid (And.intro hN5 (And.intro hb5 (And.intro n0 n2)))
       clear hN5 hb5 n0 n2))
  have hT : Tw w.heap.size (w.heap.size + 1 + 1) w5 (((w5.setCell ⟨w.heap.size, 0, none⟩ (.int .i64 (N : Int))).setCell ⟨w.heap.size, 1, none⟩ (.slice A' L1.length c')).alloc (.cells #[.int .i64 (N : Int), .slice A' L1.length c'] 24)) := (((Tw.refl _ _ _).setX _ _).setX _ _).alloc _
  have m0 : ((((w5.setCell ⟨w.heap.size, 0, none⟩ (.int .i64 (N : Int))).setCell ⟨w.heap.size, 1, none⟩ (.slice A' L1.length c')).alloc (.cells #[.int .i64 (N : Int), .slice A' L1.length c'] 24))).heap[w.heap.size]? = some (.cells #[.int .i64 (N : Int), .slice A' L1.length c'] 24 (0, 0)) := (alloc_old _ _ _ (by rw [setCell_size, setCell_size]; omega)).trans (two_set H5.out.2.2.1 _ _)
  have m2 : ((((w5.setCell ⟨w.heap.size, 0, none⟩ (.int .i64 (N : Int))).setCell ⟨w.heap.size, 1, none⟩ (.slice A' L1.length c')).alloc (.cells #[.int .i64 (N : Int), .slice A' L1.length c'] 24))).heap[w.heap.size + 1 + 1]? = some (.cells #[.int .i64 0, .slice none 0 0] 24 (0, 0)) := (alloc_old _ _ _ (by rw [setCell_size, setCell_size]; omega)).trans ((setCell_far _ _ _ _ (by show w.heap.size + 1 + 1 ≠ w.heap.size; omega)).trans ((setCell_far _ _ _ _ (by show w.heap.size + 1 + 1 ≠ w.heap.size; omega)).trans H5.out.2.2.2))
  generalize (((w5.setCell ⟨w.heap.size, 0, none⟩ (.int .i64 (N : Int))).setCell ⟨w.heap.size, 1, none⟩ (.slice A' L1.length c')).alloc (.cells #[.int .i64 (N : Int), .slice A' L1.length c'] 24)) = Wd at *
  obtain ⟨s0, s1, f0, f1⟩ := two_cells m0
  obtain ⟨z0, z1, f2, f3⟩ := two_cells m2
  have HT := Lib.hid (And.intro hT m2)
  clear hT m0 m2
  go_region
  all_goals
    go_wp2_with (fail)
    obtain ⟨q0, q1, _, _⟩ := two_cells (two_set (w := Wd.drew) HT.out.2 (.int .i64 (N : Int)) (.slice A' L1.length c'))
    refine bodyPost_ret (v := .tuple #[.pointer (some ⟨b, 0, none⟩), sv N A' L1.length c', .int .i64 0]) (by simp [results, Try.results27, go_sem, q0, q1, z0, z1]) rfl ⟨b, A', c', L1, rfl, ?_⟩
    exact step_fin HX.out.2.2.2.1 HX.out.2.2.2.2.1 hbl H5.out.1 (by have := H4.out.2.1.size; omega) (((grow_of_below HX.out.2.2.1).trans H4.out.2.1).trans (grow_of_below H5.out.2.1)) (H4.out.1.keep (H5.out.2.1.block _ H4.out.1.lt)) ((HT.out.1.drew.setY _ _).setY _ _)

end Bu
end Go.Proofs.Ytdanhbbdkcbapaa