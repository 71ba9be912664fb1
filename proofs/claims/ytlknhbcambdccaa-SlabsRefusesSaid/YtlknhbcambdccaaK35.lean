/- does of the law, act by act. does of the law, more acts. does of the law, more acts. does of the law: the cache is saved and loaded. -/
import Derived.Test.YtlknhbcambdccaaK34
import Derived.Deep.RegionHeld3
import Derived.Deep.QuietTactic
import Derived.BigQuiet
namespace Go.Proofs.Ytlknhbcambdccaa
open Go.RowKit
namespace Sl
open Bu

theorem objC_len {C : Ca} {N : Nat} {L : List Blk} (H : CaOk C N L) : (objC C).length ≤ 131072 := by
  have h1 := objK_len (C := C) (fun x hx => by rw [H.len x hx]; exact (capa_pos H).2.1) C.sl.length (Nat.le_refl _)
  rw [objK_all] at h1
  have h2 := ok_len H
  omega
set_option maxRecDepth 100000 in
set_option maxHeartbeats 8000000 in
theorem does_alloc (w0 : World) (x b r N : Nat) (P : Nat) (hP : P < 256) (k : Nat) (hk : P % 12 = k) (hkl : k < 5) (n : Int) (hn1 : -9223372036854775808 ≤ n) (hn2 : n < 9223372036854775808) (W : World) {c : Nat} {own own2 : Own?} {C : Ca} {L : List Blk} {q : List RS} {A : Option Addr} {cG : Nat} {O : List Blk} {Ao : Option Addr} {co : Nat} (h : DuoO w0 ⟨x, 2, none⟩ x c b r own own2 C N L q A cG O Ao co W) :
    Calls Try.prog 26 #[.pointer (some ⟨x, 0, none⟩), .agg #[.int .u8 (P : Int), .int .i64 n]] W fun e W' => e = .returned (.bool true) ∧ Wld w0 x b r N W' := by
  obtain ⟨W1, hW1⟩ : ∃ W1, W1 = W.alloc (.cells #[.int .u8 (P : Int), .int .i64 n] 57) := ⟨_, rfl⟩
  have hb1 : Below W.heap.size W W1 := by rw [hW1]; exact below_box W _
  have hg1 : W1.heap[W.heap.size]? = some (.cells #[.int .u8 (P : Int), .int .i64 n] 57 (0, 0)) := by rw [hW1, heapAlloc, if_pos rfl]
  have h1 := h.below hb1
  obtain ⟨g0, g1, _, _⟩ := Bu.two_cells hg1
  obtain ⟨x0, x1, _, _, x4, _⟩ := six_cells h1.wrld
  have hgl : W.heap.size < W1.heap.size := by rw [hW1]; simp
  have hxl := lt_of_heap h1.wrld
  obtain ⟨M, hM⟩ : ∃ M, M = objC C := ⟨_, rfl⟩
  have hO := objectsR_ok W1 own2 r ⟨x, 2, none⟩ C.size C.order C.keep N L q h1.ref h1.fr2 h1.refok
  rw [show objC (refC C.size C.order C.keep q) = M by rw [hM]; unfold refC; rw [h1.refq]] at hO
  have HO := Lib.hid hO
  have HW := Lib.hid hW1
  have H1 := Lib.hid (And.intro h1 hM)
  have HGN := Lib.hid (show own W.heap.size = none ∧ own2 W.heap.size = none ∧ W.heap.size ≠ x from ⟨Classical.byContradiction fun e => by have := h.prog.held.fresh _ e; omega, Classical.byContradiction fun e => by have := h.fr2 _ e; omega, by have := lt_of_heap h.wrld; omega⟩)
  have hki : (P : Int) % 12 = (k : Int) := by omega
  have eP : (0 : Int) ≤ (P : Int) := by omega
  have eP2 : (P : Int) < 256 := by omega
  have k0 : (k : Int) < 5 := by omega
  have k1 : (0 : Int) ≤ (k : Int) := by omega
  clear hW1 hb1 hg1 h1 h hO hM hk hP
  go_enter Try.func26, Try.ntmps26
  go_upto_region 1 with (fail)
  rw [← HW.out]
  go_wp2_with (go_at_call 53; fail)
  refine HO.out.mono ?_
  rintro _ W2 ⟨⟨A2, c2, rfl, ho2⟩, hb2⟩
  obtain ⟨ml, hml⟩ : ∃ ml, ml = M.length := ⟨_, rfl⟩
  rw [← hml]
  replace x0 := (hb2.cell (p := ⟨x, 0, none⟩) hxl).trans x0
  replace x1 := (hb2.cell (p := ⟨x, 1, none⟩) hxl).trans x1
  replace x4 := (hb2.cell (p := ⟨x, 4, none⟩) hxl).trans x4
  replace g0 := (hb2.cell (p := ⟨W.heap.size, 0, none⟩) hgl).trans g0
  replace g1 := (hb2.cell (p := ⟨W.heap.size, 1, none⟩) hgl).trans g1
  have hxl2 : x < W2.heap.size := Nat.lt_of_lt_of_le hxl hb2.size
  have hgl2 : W.heap.size < W2.heap.size := Nat.lt_of_lt_of_le hgl hb2.size
  have H2 := Lib.hid (And.intro (H1.out.1.below hb2) (And.intro (own64_at ho2) hml))
  clear ho2 hb2 hml
  cases ha : allocC C N L with
  | none =>
    have HA := Lib.hid (H2.out.1.prog.full ha)
    have HAL := Lib.hid ha
    clear ha
    go_wp2_with (go_at_call 12; fail)
    refine HA.out.mono ?_
    rintro _ W3 ⟨rfl, hM3, hK3⟩
    have hx3 : W3.heap[x]? = W2.heap[x]? := hK3.block x hxl2 H2.out.1.xnew.2.1
    replace x4 := (World.cell?_of_block (a := ⟨x, 4, none⟩) hx3).trans x4
    have hR3 := allocR_any W3 own2 r x 2 C.size C.order C.keep N L q A cG (H2.out.1.refS1 hK3) C.sl H2.out.1.refq H2.out.1.prog.held.ok
    have HR3 := Lib.hid hR3
    have H3 := Lib.hid (And.intro hM3 hK3)
    clear hM3 hK3 hx3 hR3
    go_wp2_with (go_at_call 54; fail)
    refine HR3.out.mono ?_
    intro e W4 hr4
    rw [show (⟨C.size, C.order, C.keep, C.sl⟩ : Ca) = C from rfl, HAL.out] at hr4
    obtain ⟨rfl, own4, q4, A4, c4, hq4, hS4, hN4⟩ := hr4
    have H4 := Lib.hid (And.intro hq4 (And.intro hS4 hN4))
    clear hq4 hS4 hN4
    go_wp2_with (fail)
    go_ret
    exact ⟨rfl, c, own, own4, C, L, q4, A4, c4, O, Ao, co, H2.out.1.next H3.out.1 H3.out.2 H4.out.2.1 H4.out.2.2 H4.out.1 H2.out.1.sub⟩
  | some asl =>
    obtain ⟨a, sl, L'⟩ := asl
    have HA := Lib.hid (H2.out.1.prog.alloc ha)
    have HAL := Lib.hid ha
    clear ha
    go_wp2_with (go_at_call 12; fail)
    refine HA.out.mono ?_
    rintro _ W3 ⟨rfl, own3, hM3, hK3⟩
    have hx3 : W3.heap[x]? = W2.heap[x]? := hK3.block x hxl2 H2.out.1.xnew.2.1
    replace x4 := (World.cell?_of_block (a := ⟨x, 4, none⟩) hx3).trans x4
    have hR3 := allocR_any W3 own2 r x 2 C.size C.order C.keep N L q A cG (H2.out.1.refS1 hK3) C.sl H2.out.1.refq H2.out.1.prog.held.ok
    have HR3 := Lib.hid hR3
    have H3 := Lib.hid (And.intro hM3 hK3)
    clear hM3 hK3 hx3 hR3
    go_wp2_with (go_at_call 54; fail)
    refine HR3.out.mono ?_
    intro e W4 hr4
    rw [show (⟨C.size, C.order, C.keep, C.sl⟩ : Ca) = C from rfl, HAL.out] at hr4
    obtain ⟨rfl, own4, q4, A4, c4, hq4, hS4, hN4⟩ := hr4
    have H4 := Lib.hid (And.intro hq4 (And.intro hS4 hN4))
    clear hq4 hS4 hN4
    have hab : ((a : Int) == (a : Int)) = true := by simp
    go_wp2_with (fail)
    go_ret
    exact ⟨rfl, c, own3, own4, { C with sl := sl }, L', q4, A4, c4, O, Ao, co, H2.out.1.next H3.out.1 H3.out.2 H4.out.2.1 H4.out.2.2 H4.out.1 (sub_alloc (C := C) H2.out.1.prog.held.ok H2.out.1.sub HAL.out)⟩

set_option maxRecDepth 100000 in
set_option maxHeartbeats 8000000 in
theorem does_trim (w0 : World) (x b r N : Nat) (P : Nat) (hP : P < 256) (k : Nat) (hk : P % 12 = k) (hkl : k = 8) (n : Int) (hn1 : -9223372036854775808 ≤ n) (hn2 : n < 9223372036854775808) (W : World) {c : Nat} {own own2 : Own?} {C : Ca} {L : List Blk} {q : List RS} {A : Option Addr} {cG : Nat} {O : List Blk} {Ao : Option Addr} {co : Nat} (h : DuoO w0 ⟨x, 2, none⟩ x c b r own own2 C N L q A cG O Ao co W) :
    Calls Try.prog 26 #[.pointer (some ⟨x, 0, none⟩), .agg #[.int .u8 (P : Int), .int .i64 n]] W fun e W' => e = .returned (.bool true) ∧ Wld w0 x b r N W' := by
  obtain ⟨W1, hW1⟩ : ∃ W1, W1 = W.alloc (.cells #[.int .u8 (P : Int), .int .i64 n] 57) := ⟨_, rfl⟩
  have hb1 : Below W.heap.size W W1 := by rw [hW1]; exact below_box W _
  have hg1 : W1.heap[W.heap.size]? = some (.cells #[.int .u8 (P : Int), .int .i64 n] 57 (0, 0)) := by rw [hW1, heapAlloc, if_pos rfl]
  have h1 := h.below hb1
  obtain ⟨g0, g1, _, _⟩ := Bu.two_cells hg1
  obtain ⟨x0, x1, _, _, x4, _⟩ := six_cells h1.wrld
  have hgl : W.heap.size < W1.heap.size := by rw [hW1]; simp
  have hxl := lt_of_heap h1.wrld
  obtain ⟨M, hM⟩ : ∃ M, M = objC C := ⟨_, rfl⟩
  have hO := objectsR_ok W1 own2 r ⟨x, 2, none⟩ C.size C.order C.keep N L q h1.ref h1.fr2 h1.refok
  rw [show objC (refC C.size C.order C.keep q) = M by rw [hM]; unfold refC; rw [h1.refq]] at hO
  have HO := Lib.hid hO
  have HW := Lib.hid hW1
  have H1 := Lib.hid (And.intro h1 hM)
  have HGN := Lib.hid (show own W.heap.size = none ∧ own2 W.heap.size = none ∧ W.heap.size ≠ x from ⟨Classical.byContradiction fun e => by have := h.prog.held.fresh _ e; omega, Classical.byContradiction fun e => by have := h.fr2 _ e; omega, by have := lt_of_heap h.wrld; omega⟩)
  have hki : (P : Int) % 12 = (k : Int) := by omega
  have eP : (0 : Int) ≤ (P : Int) := by omega
  have eP2 : (P : Int) < 256 := by omega
  subst hkl
  have hki : (P : Int) % 12 = 8 := hki
  clear hW1 hb1 hg1 h1 h hO hM hk hP
  go_enter Try.func26, Try.ntmps26
  go_upto_region 1 with (fail)
  rw [← HW.out]
  go_wp2_with (go_at_call 53; fail)
  refine HO.out.mono ?_
  rintro _ W2 ⟨⟨A2, c2, rfl, ho2⟩, hb2⟩
  obtain ⟨ml, hml⟩ : ∃ ml, ml = M.length := ⟨_, rfl⟩
  rw [← hml]
  replace x0 := (hb2.cell (p := ⟨x, 0, none⟩) hxl).trans x0
  replace x1 := (hb2.cell (p := ⟨x, 1, none⟩) hxl).trans x1
  replace x4 := (hb2.cell (p := ⟨x, 4, none⟩) hxl).trans x4
  replace g0 := (hb2.cell (p := ⟨W.heap.size, 0, none⟩) hgl).trans g0
  replace g1 := (hb2.cell (p := ⟨W.heap.size, 1, none⟩) hgl).trans g1
  have hxl2 : x < W2.heap.size := Nat.lt_of_lt_of_le hxl hb2.size
  have hgl2 : W.heap.size < W2.heap.size := Nat.lt_of_lt_of_le hgl hb2.size
  have H2 := Lib.hid (And.intro (H1.out.1.below hb2) (And.intro (own64_at ho2) hml))
  clear ho2 hb2 hml
  have HA := Lib.hid H2.out.1.prog.trim
  obtain ⟨em, hem⟩ : ∃ em, em = emptyS C.sl := ⟨_, rfl⟩
  rw [← hem] at HA
  have hff : ((em : Int) == (em : Int)) = true := by simp
  have HE := Lib.hid hem
  clear hem
  go_wp2_with (go_at_call 20; fail)
  refine HA.out.mono ?_
  rintro _ W3 ⟨rfl, hM3, hK3⟩
  have hx3 : W3.heap[x]? = W2.heap[x]? := hK3.block x hxl2 H2.out.1.xnew.2.1
  replace x4 := (World.cell?_of_block (a := ⟨x, 4, none⟩) hx3).trans x4
  have HR3 := Lib.hid (trimR_ok W3 own2 r x 2 C.size C.order C.keep N L q A cG (H2.out.1.refS1 hK3) C.sl H2.out.1.refq H2.out.1.prog.held.ok)
  rw [← HE.out] at HR3
  have H3 := Lib.hid (And.intro hM3 hK3)
  clear hM3 hK3 hx3
  go_wp2_with (go_at_call 57; fail)
  refine HR3.out.mono ?_
  rintro _ W4 ⟨rfl, own4, q4, A4, c4, hq4, hS4, hN4⟩
  have H4 := Lib.hid (And.intro hq4 (And.intro hS4 hN4))
  clear hq4 hS4 hN4
  go_wp2_with (fail)
  go_ret
  obtain ⟨hq4, hS4, hN4⟩ := H4.out
  rw [slK_zero] at hq4
  rw [List.drop_zero] at hS4 hN4
  exact ⟨rfl, c, own, own4, trimC C, trimL C L, q4, A4, c4, O, Ao, co, H2.out.1.next H3.out.1 H3.out.2 hS4 hN4 hq4 (sub_trim (C := C) H2.out.1.sub)⟩
end Sl
end Go.Proofs.Ytlknhbcambdccaa
namespace Go.Proofs.Ytlknhbcambdccaa
open Go.RowKit
namespace Sl
open Bu

set_option maxRecDepth 100000 in
set_option maxHeartbeats 8000000 in
theorem does_pick (w0 : World) (x b r N : Nat) (P : Nat) (hP : P < 256) (k : Nat) (hk : P % 12 = k) (hkl : 5 ≤ k ∧ k < 7) (n : Int) (hn1 : -9223372036854775808 ≤ n) (hn2 : n < 9223372036854775808) (W : World) {c : Nat} {own own2 : Own?} {C : Ca} {L : List Blk} {q : List RS} {A : Option Addr} {cG : Nat} {O : List Blk} {Ao : Option Addr} {co : Nat} (h : DuoO w0 ⟨x, 2, none⟩ x c b r own own2 C N L q A cG O Ao co W) :
    Calls Try.prog 26 #[.pointer (some ⟨x, 0, none⟩), .agg #[.int .u8 (P : Int), .int .i64 n]] W fun e W' => e = .returned (.bool true) ∧ Wld w0 x b r N W' := by
  obtain ⟨W1, hW1⟩ : ∃ W1, W1 = W.alloc (.cells #[.int .u8 (P : Int), .int .i64 n] 57) := ⟨_, rfl⟩
  have hb1 : Below W.heap.size W W1 := by rw [hW1]; exact below_box W _
  have hg1 : W1.heap[W.heap.size]? = some (.cells #[.int .u8 (P : Int), .int .i64 n] 57 (0, 0)) := by rw [hW1, heapAlloc, if_pos rfl]
  have h1 := h.below hb1
  obtain ⟨g0, g1, _, _⟩ := Bu.two_cells hg1
  obtain ⟨x0, x1, _, _, x4, _⟩ := six_cells h1.wrld
  have hgl : W.heap.size < W1.heap.size := by rw [hW1]; simp
  have hxl := lt_of_heap h1.wrld
  obtain ⟨M, hM⟩ : ∃ M, M = objC C := ⟨_, rfl⟩
  have hO := objectsR_ok W1 own2 r ⟨x, 2, none⟩ C.size C.order C.keep N L q h1.ref h1.fr2 h1.refok
  rw [show objC (refC C.size C.order C.keep q) = M by rw [hM]; unfold refC; rw [h1.refq]] at hO
  have HO := Lib.hid hO
  have HW := Lib.hid hW1
  have H1 := Lib.hid (And.intro h1 hM)
  have HGN := Lib.hid (show own W.heap.size = none ∧ own2 W.heap.size = none ∧ W.heap.size ≠ x from ⟨Classical.byContradiction fun e => by have := h.prog.held.fresh _ e; omega, Classical.byContradiction fun e => by have := h.fr2 _ e; omega, by have := lt_of_heap h.wrld; omega⟩)
  have hki : (P : Int) % 12 = (k : Int) := by omega
  have eP : (0 : Int) ≤ (P : Int) := by omega
  have eP2 : (P : Int) < 256 := by omega
  have k0 : ¬ (k : Int) < 5 := by omega
  have k1 : (k : Int) < 7 := by omega
  have k2 : (0 : Int) ≤ (k : Int) := by omega
  clear hkl
  clear hW1 hb1 hg1 h1 h hO hM hk hP
  go_enter Try.func26, Try.ntmps26
  go_upto_region 1 with (fail)
  rw [← HW.out]
  go_wp2_with (go_at_call 53; fail)
  refine HO.out.mono ?_
  rintro _ W2 ⟨⟨A2, c2, rfl, ho2⟩, hb2⟩
  obtain ⟨ml, hml⟩ : ∃ ml, ml = M.length := ⟨_, rfl⟩
  rw [← hml]
  replace x0 := (hb2.cell (p := ⟨x, 0, none⟩) hxl).trans x0
  replace x1 := (hb2.cell (p := ⟨x, 1, none⟩) hxl).trans x1
  replace x4 := (hb2.cell (p := ⟨x, 4, none⟩) hxl).trans x4
  replace g0 := (hb2.cell (p := ⟨W.heap.size, 0, none⟩) hgl).trans g0
  replace g1 := (hb2.cell (p := ⟨W.heap.size, 1, none⟩) hgl).trans g1
  have hxl2 : x < W2.heap.size := Nat.lt_of_lt_of_le hxl hb2.size
  have hgl2 : W.heap.size < W2.heap.size := Nat.lt_of_lt_of_le hgl hb2.size
  have H2 := Lib.hid (And.intro (H1.out.1.below hb2) (And.intro (own64_at ho2) hml))
  clear ho2 hb2 hml
  have HP := Lib.hid (pick_ok W2 A2 c2 M n H2.out.2.1 (by rw [H1.out.2]; have := objC_len H2.out.1.prog.held.ok; omega))
  rw [← H2.out.2.2] at HP
  go_wp2_with (go_at_call 55; fail)
  refine HP.out.mono ?_
  rintro _ _ ⟨⟨a, rfl, ha⟩, rfl⟩
  have hal : (a : Int) < 9223372036854775808 := by
    rcases ha with h0 | h0
    · omega
    · rw [H1.out.2, mem_objC] at h0
      have := (obj_in H2.out.1.prog.held.ok h0).2.1
      omega
  clear ha
  obtain ⟨fr, hfr⟩ : ∃ fr, fr = freeC C L (a : Int) := ⟨_, rfl⟩
  obtain ⟨fn, sl, L'⟩ := fr
  have hD := H2.out.1.below (below_drew W2 1)
  have HA := Lib.hid (hD.prog.free (by omega) hal hfr.symm)
  have HF := Lib.hid hfr.symm
  have hff : ((fn : Int) == (fn : Int)) = true := by simp
  have HD := Lib.hid hD
  clear hfr hD
  go_upto_region 9 with (fail)
  go_region_held3 (fun w' => w'.cell? ⟨x, 1, none⟩ = some (.pointer (some ⟨c, 0, none⟩)) ∧ w'.cell? ⟨x, 4, none⟩ = some (.pointer (some ⟨r, 0, none⟩))) (first | exact ⟨x1, x4⟩ | exact ⟨y1, y4⟩ | exact ⟨z1, z4⟩) (first
    | (go_at_call 11; refine HA.out.mono ?_; rintro _ W3 ⟨rfl, hM3, hK3⟩; have hx3 : W3.heap[x]? = W2.heap[x]? := hK3.block x hxl2 H2.out.1.xnew.2.1; have y1 := (World.cell?_of_block (a := ⟨x, 1, none⟩) hx3).trans x1; have y4 := (World.cell?_of_block (a := ⟨x, 4, none⟩) hx3).trans x4; have HR3 := Lib.hid (freeR_walk W3 own2 r x 2 C.size C.order C.keep N L q A cG (HD.out.refS1 hK3) C.sl H2.out.1.refq H2.out.1.prog.held.ok (a : Int)); have H3 := Lib.hid (And.intro hM3 hK3); clear hM3 hK3 hx3)
    | (go_at_call 56; refine HR3.out.mono ?_; intro e W4 hr4; rw [show (⟨C.size, C.order, C.keep, C.sl⟩ : Ca) = C from rfl, HF.out] at hr4; obtain ⟨rfl, own4, q4, A4, c4, hq4, hS4, hN4⟩ := hr4; have hD4 := HD.out.next H3.out.1 H3.out.2 hS4 hN4 hq4 (sub_free (C := C) H2.out.1.sub HF.out); obtain ⟨_, z1, _, _, z4, _⟩ := six_cells hD4.wrld; have H4 := Lib.hid hD4; clear hD4 hq4 hS4 hN4))
  go_wp2_with (fail)
  go_ret
  exact ⟨rfl, _, _, _, _, _, _, _, _, _, _, _, H4.out⟩

set_option maxRecDepth 100000 in
set_option maxHeartbeats 8000000 in
theorem does_free (w0 : World) (x b r N : Nat) (P : Nat) (hP : P < 256) (k : Nat) (hk : P % 12 = k) (hkl : k = 7) (n : Int) (hn1 : -9223372036854775808 ≤ n) (hn2 : n < 9223372036854775808) (W : World) {c : Nat} {own own2 : Own?} {C : Ca} {L : List Blk} {q : List RS} {A : Option Addr} {cG : Nat} {O : List Blk} {Ao : Option Addr} {co : Nat} (h : DuoO w0 ⟨x, 2, none⟩ x c b r own own2 C N L q A cG O Ao co W) :
    Calls Try.prog 26 #[.pointer (some ⟨x, 0, none⟩), .agg #[.int .u8 (P : Int), .int .i64 n]] W fun e W' => e = .returned (.bool true) ∧ Wld w0 x b r N W' := by
  obtain ⟨W1, hW1⟩ : ∃ W1, W1 = W.alloc (.cells #[.int .u8 (P : Int), .int .i64 n] 57) := ⟨_, rfl⟩
  have hb1 : Below W.heap.size W W1 := by rw [hW1]; exact below_box W _
  have hg1 : W1.heap[W.heap.size]? = some (.cells #[.int .u8 (P : Int), .int .i64 n] 57 (0, 0)) := by rw [hW1, heapAlloc, if_pos rfl]
  have h1 := h.below hb1
  obtain ⟨g0, g1, _, _⟩ := Bu.two_cells hg1
  obtain ⟨x0, x1, _, _, x4, _⟩ := six_cells h1.wrld
  have hgl : W.heap.size < W1.heap.size := by rw [hW1]; simp
  have hxl := lt_of_heap h1.wrld
  obtain ⟨M, hM⟩ : ∃ M, M = objC C := ⟨_, rfl⟩
  have hO := objectsR_ok W1 own2 r ⟨x, 2, none⟩ C.size C.order C.keep N L q h1.ref h1.fr2 h1.refok
  rw [show objC (refC C.size C.order C.keep q) = M by rw [hM]; unfold refC; rw [h1.refq]] at hO
  have HO := Lib.hid hO
  have HW := Lib.hid hW1
  have H1 := Lib.hid (And.intro h1 hM)
  have HGN := Lib.hid (show own W.heap.size = none ∧ own2 W.heap.size = none ∧ W.heap.size ≠ x from ⟨Classical.byContradiction fun e => by have := h.prog.held.fresh _ e; omega, Classical.byContradiction fun e => by have := h.fr2 _ e; omega, by have := lt_of_heap h.wrld; omega⟩)
  have hki : (P : Int) % 12 = (k : Int) := by omega
  have eP : (0 : Int) ≤ (P : Int) := by omega
  have eP2 : (P : Int) < 256 := by omega
  subst hkl
  have hki : (P : Int) % 12 = 7 := hki
  clear hW1 hb1 hg1 h1 h hO hM hk hP
  go_enter Try.func26, Try.ntmps26
  go_upto_region 1 with (fail)
  rw [← HW.out]
  go_wp2_with (go_at_call 53; fail)
  refine HO.out.mono ?_
  rintro _ W2 ⟨⟨A2, c2, rfl, ho2⟩, hb2⟩
  obtain ⟨ml, hml⟩ : ∃ ml, ml = M.length := ⟨_, rfl⟩
  rw [← hml]
  replace x0 := (hb2.cell (p := ⟨x, 0, none⟩) hxl).trans x0
  replace x1 := (hb2.cell (p := ⟨x, 1, none⟩) hxl).trans x1
  replace x4 := (hb2.cell (p := ⟨x, 4, none⟩) hxl).trans x4
  replace g0 := (hb2.cell (p := ⟨W.heap.size, 0, none⟩) hgl).trans g0
  replace g1 := (hb2.cell (p := ⟨W.heap.size, 1, none⟩) hgl).trans g1
  have hxl2 : x < W2.heap.size := Nat.lt_of_lt_of_le hxl hb2.size
  have hgl2 : W.heap.size < W2.heap.size := Nat.lt_of_lt_of_le hgl hb2.size
  have H2 := Lib.hid (And.intro (H1.out.1.below hb2) (And.intro (own64_at ho2) hml))
  clear ho2 hb2 hml
  obtain ⟨fr, hfr⟩ : ∃ fr, fr = freeC C L n := ⟨_, rfl⟩
  obtain ⟨fn, sl, L'⟩ := fr
  have hD := H2.out.1.below (below_drew W2 1)
  have HA := Lib.hid (hD.prog.free hn1 hn2 hfr.symm)
  have HF := Lib.hid hfr.symm
  have hff : ((fn : Int) == (fn : Int)) = true := by simp
  have HD := Lib.hid hD
  clear hfr hD
  go_upto_region 11 with (fail)
  go_region_held3 (fun w' => w'.cell? ⟨x, 1, none⟩ = some (.pointer (some ⟨c, 0, none⟩)) ∧ w'.cell? ⟨x, 4, none⟩ = some (.pointer (some ⟨r, 0, none⟩)) ∧ w'.cell? ⟨W.heap.size, 1, none⟩ = some (.int .i64 n)) (first | exact ⟨x1, x4, g1⟩ | exact ⟨y1, y4, z1g⟩ | exact ⟨z1, z4, z2g⟩) (first
    | (go_at_call 11; refine HA.out.mono ?_; rintro _ W3 ⟨rfl, hM3, hK3⟩; have hx3 : W3.heap[x]? = W2.heap[x]? := hK3.block x hxl2 H2.out.1.xnew.2.1; have y1 := (World.cell?_of_block (a := ⟨x, 1, none⟩) hx3).trans x1; have y4 := (World.cell?_of_block (a := ⟨x, 4, none⟩) hx3).trans x4; have hgl3 : W.heap.size < W3.heap.size := Nat.lt_of_lt_of_le hgl2 hK3.size; have z1g : W3.cell? ⟨W.heap.size, 1, none⟩ = some (.int .i64 n) := (World.cell?_of_block (a := ⟨W.heap.size, 1, none⟩) (hK3.block _ hgl2 HGN.out.1)).trans g1; have HR3 := Lib.hid (freeR_walk W3 own2 r x 2 C.size C.order C.keep N L q A cG (HD.out.refS1 hK3) C.sl H2.out.1.refq H2.out.1.prog.held.ok n); have H3 := Lib.hid (And.intro hM3 hK3); clear hM3 hK3 hx3)
    | (go_at_call 56; refine HR3.out.mono ?_; intro e W4 hr4; rw [show (⟨C.size, C.order, C.keep, C.sl⟩ : Ca) = C from rfl, HF.out] at hr4; obtain ⟨rfl, own4, q4, A4, c4, hq4, hS4, hN4⟩ := hr4; have hD4 := HD.out.next H3.out.1 H3.out.2 hS4 hN4 hq4 (sub_free (C := C) H2.out.1.sub HF.out); obtain ⟨_, z1, _, _, z4, _⟩ := six_cells hD4.wrld; have z2g : W4.cell? ⟨W.heap.size, 1, none⟩ = some (.int .i64 n) := (World.cell?_of_block (a := ⟨W.heap.size, 1, none⟩) (hN4.keep.block _ hgl3 HGN.out.2.1 HGN.out.2.2)).trans z1g; have H4 := Lib.hid hD4; clear hD4 hq4 hS4 hN4))
  go_wp2_with (fail)
  go_ret
  exact ⟨rfl, _, _, _, _, _, _, _, _, _, _, _, H4.out⟩
end Sl
end Go.Proofs.Ytlknhbcambdccaa
namespace Go.Proofs.Ytlknhbcambdccaa
open Go.RowKit
namespace Sl
open Bu

set_option maxRecDepth 100000 in
set_option maxHeartbeats 8000000 in
theorem does_owner (w0 : World) (x b r N : Nat) (P : Nat) (hP : P < 256) (k : Nat) (hk : P % 12 = k) (hkl : k = 9) (n : Int) (hn1 : -9223372036854775808 ≤ n) (hn2 : n < 9223372036854775808) (W : World) {c : Nat} {own own2 : Own?} {C : Ca} {L : List Blk} {q : List RS} {A : Option Addr} {cG : Nat} {O : List Blk} {Ao : Option Addr} {co : Nat} (h : DuoO w0 ⟨x, 2, none⟩ x c b r own own2 C N L q A cG O Ao co W) :
    Calls Try.prog 26 #[.pointer (some ⟨x, 0, none⟩), .agg #[.int .u8 (P : Int), .int .i64 n]] W fun e W' => e = .returned (.bool true) ∧ Wld w0 x b r N W' := by
  obtain ⟨W1, hW1⟩ : ∃ W1, W1 = W.alloc (.cells #[.int .u8 (P : Int), .int .i64 n] 57) := ⟨_, rfl⟩
  have hb1 : Below W.heap.size W W1 := by rw [hW1]; exact below_box W _
  have hg1 : W1.heap[W.heap.size]? = some (.cells #[.int .u8 (P : Int), .int .i64 n] 57 (0, 0)) := by rw [hW1, heapAlloc, if_pos rfl]
  have h1 := h.below hb1
  obtain ⟨g0, g1, _, _⟩ := Bu.two_cells hg1
  obtain ⟨x0, x1, _, _, x4, _⟩ := six_cells h1.wrld
  have hgl : W.heap.size < W1.heap.size := by rw [hW1]; simp
  have hxl := lt_of_heap h1.wrld
  obtain ⟨M, hM⟩ : ∃ M, M = objC C := ⟨_, rfl⟩
  have hO := objectsR_ok W1 own2 r ⟨x, 2, none⟩ C.size C.order C.keep N L q h1.ref h1.fr2 h1.refok
  rw [show objC (refC C.size C.order C.keep q) = M by rw [hM]; unfold refC; rw [h1.refq]] at hO
  have HO := Lib.hid hO
  have HW := Lib.hid hW1
  have H1 := Lib.hid (And.intro h1 hM)
  have HGN := Lib.hid (show own W.heap.size = none ∧ own2 W.heap.size = none ∧ W.heap.size ≠ x from ⟨Classical.byContradiction fun e => by have := h.prog.held.fresh _ e; omega, Classical.byContradiction fun e => by have := h.fr2 _ e; omega, by have := lt_of_heap h.wrld; omega⟩)
  have hki : (P : Int) % 12 = (k : Int) := by omega
  have eP : (0 : Int) ≤ (P : Int) := by omega
  have eP2 : (P : Int) < 256 := by omega
  subst hkl
  have hki : (P : Int) % 12 = 9 := hki
  clear hW1 hb1 hg1 h1 h hO hM hk hP
  go_enter Try.func26, Try.ntmps26
  go_upto_region 1 with (fail)
  rw [← HW.out]
  go_wp2_with (go_at_call 53; fail)
  refine HO.out.mono ?_
  rintro _ W2 ⟨⟨A2, c2, rfl, ho2⟩, hb2⟩
  obtain ⟨ml, hml⟩ : ∃ ml, ml = M.length := ⟨_, rfl⟩
  rw [← hml]
  replace x0 := (hb2.cell (p := ⟨x, 0, none⟩) hxl).trans x0
  replace x1 := (hb2.cell (p := ⟨x, 1, none⟩) hxl).trans x1
  replace x4 := (hb2.cell (p := ⟨x, 4, none⟩) hxl).trans x4
  replace g0 := (hb2.cell (p := ⟨W.heap.size, 0, none⟩) hgl).trans g0
  replace g1 := (hb2.cell (p := ⟨W.heap.size, 1, none⟩) hgl).trans g1
  have hxl2 : x < W2.heap.size := Nat.lt_of_lt_of_le hxl hb2.size
  have hgl2 : W.heap.size < W2.heap.size := Nat.lt_of_lt_of_le hgl hb2.size
  have H2 := Lib.hid (And.intro (H1.out.1.below hb2) (And.intro (own64_at ho2) hml))
  clear ho2 hb2 hml
  have hD := H2.out.1.below (below_drew W2 1)
  have HD := Lib.hid hD
  clear hD
  cases how : ownerC C n with
  | none =>
    have HA := Lib.hid (show Calls Try.prog 13 #[.pointer (some ⟨c, 0, none⟩), .int .i64 n] (World.drew W2) fun e W' => e = .returned (.tuple #[.int .i64 0, .bool false, .int .i64 4]) ∧ Mine w0 own c b C N L W' ∧ Below (World.drew W2).heap.size (World.drew W2) W' from HD.out.prog.owner hn1 hn2 how)
    have hov : ∀ e, OwnR2 C.size q n e → e = .returned (.tuple #[.int .i64 0, .bool false, .int .i64 4]) := fun e he => by
      rcases he with ⟨j, i, y, v, hy, hv, hh, rfl⟩ | ⟨hno, rfl⟩
      · have := owner_at H2.out.1.prog.held.ok (j := j) (i := i) (x := y.1) (v := v) (by rw [← H2.out.1.refq, List.getElem?_map, hy]; rfl) hv hh.1 hh.2
        rw [how] at this; cases this
      · rfl
    have HV := Lib.hid hov
    clear hov how
    go_upto_region 16 with (fail)
    go_region_held3 (fun w' => w'.cell? ⟨x, 1, none⟩ = some (.pointer (some ⟨c, 0, none⟩)) ∧ w'.cell? ⟨W.heap.size, 1, none⟩ = some (.int .i64 n)) (first | exact ⟨x1, g1⟩ | exact ⟨y1, z1⟩) ((go_at_call 13; refine HA.out.mono ?_; rintro _ W3 ⟨rfl, hM3, hb3⟩; have y1 : W3.cell? ⟨x, 1, none⟩ = some (.pointer (some ⟨c, 0, none⟩)) := (hb3.cell (p := ⟨x, 1, none⟩) hxl2).trans x1; have y4 : W3.cell? ⟨x, 4, none⟩ = some (.pointer (some ⟨r, 0, none⟩)) := (hb3.cell (p := ⟨x, 4, none⟩) hxl2).trans x4; have z1 : W3.cell? ⟨W.heap.size, 1, none⟩ = some (.int .i64 n) := (hb3.cell (p := ⟨W.heap.size, 1, none⟩) hgl2).trans g1; have H3 := Lib.hid (HD.out.below hb3); clear hM3 hb3))
    have hD3 := H3.out.below (below_drew W3 1)
    have HR := Lib.hid (ownerR_walk (World.drew W3) own2 r ⟨x, 2, none⟩ C.size C.order C.keep N L q hD3.ref hD3.refok n hn1 hn2)
    have HD3 := Lib.hid hD3
    clear hD3 x1 x4 g1
    go_upto_region 17 with (fail)
    go_region_held3 (fun w' => w'.cell? ⟨x, 4, none⟩ = some (.pointer (some ⟨r, 0, none⟩)) ∧ w'.cell? ⟨W.heap.size, 1, none⟩ = some (.int .i64 n)) (first | exact ⟨y4, z1⟩ | exact ⟨u4, u1⟩) ((go_at_call 58; refine HR.out.mono ?_; rintro e W4 ⟨he, m4, hW4⟩; obtain rfl := HV.out e he; have hb4 : Below (World.drew W3).heap.size (World.drew W3) W4 := (by rw [hW4]; exact below_drew _ m4); have u4 : W4.cell? ⟨x, 4, none⟩ = some (.pointer (some ⟨r, 0, none⟩)) := (by rw [hW4]; exact y4); have u1 : W4.cell? ⟨W.heap.size, 1, none⟩ = some (.int .i64 n) := (by rw [hW4]; exact z1); have H4 := Lib.hid (HD3.out.below hb4); clear he hW4 hb4))
    go_wp2_with (fail)
    go_ret
    exact ⟨rfl, _, _, _, _, _, _, _, _, _, _, _, H4.out⟩
  | some av =>
    obtain ⟨a, v⟩ := av
    have HA := Lib.hid (show Calls Try.prog 13 #[.pointer (some ⟨c, 0, none⟩), .int .i64 n] (World.drew W2) fun e W' => e = .returned (.tuple #[.int .i64 (a : Int), .bool v, .int .i64 0]) ∧ Mine w0 own c b C N L W' ∧ Below (World.drew W2).heap.size (World.drew W2) W' from HD.out.prog.owner hn1 hn2 how)
    have hov : ∀ e, OwnR2 C.size q n e → e = .returned (.tuple #[.int .i64 (a : Int), .bool v, .int .i64 0]) := fun e he => by
      rcases he with ⟨j, i, y, v2, hy, hv, hh, rfl⟩ | ⟨hno, rfl⟩
      · have := owner_at H2.out.1.prog.held.ok (j := j) (i := i) (x := y.1) (v := v2) (by rw [← H2.out.1.refq, List.getElem?_map, hy]; rfl) hv hh.1 hh.2
        rw [how] at this
        injection this with this; injection this with e1 e2
        rw [e1, e2]
      · have := owner_no H2.out.1.prog.held.ok (at_ := n) (fun j i y hy hi => by
          obtain ⟨y', hy', rfl⟩ := map_at H2.out.1.refq hy
          exact hno j i y' hy' hi)
        rw [how] at this; cases this
    have HV := Lib.hid hov
    have hab : ((a : Int) == (a : Int)) = true := by simp
    have hvv : (v == v) = true := by simp
    clear hov how
    go_upto_region 16 with (fail)
    go_region_held3 (fun w' => w'.cell? ⟨x, 1, none⟩ = some (.pointer (some ⟨c, 0, none⟩)) ∧ w'.cell? ⟨W.heap.size, 1, none⟩ = some (.int .i64 n)) (first | exact ⟨x1, g1⟩ | exact ⟨y1, z1⟩) ((go_at_call 13; refine HA.out.mono ?_; rintro _ W3 ⟨rfl, hM3, hb3⟩; have y1 : W3.cell? ⟨x, 1, none⟩ = some (.pointer (some ⟨c, 0, none⟩)) := (hb3.cell (p := ⟨x, 1, none⟩) hxl2).trans x1; have y4 : W3.cell? ⟨x, 4, none⟩ = some (.pointer (some ⟨r, 0, none⟩)) := (hb3.cell (p := ⟨x, 4, none⟩) hxl2).trans x4; have z1 : W3.cell? ⟨W.heap.size, 1, none⟩ = some (.int .i64 n) := (hb3.cell (p := ⟨W.heap.size, 1, none⟩) hgl2).trans g1; have H3 := Lib.hid (HD.out.below hb3); clear hM3 hb3))
    have hD3 := H3.out.below (below_drew W3 1)
    have HR := Lib.hid (ownerR_walk (World.drew W3) own2 r ⟨x, 2, none⟩ C.size C.order C.keep N L q hD3.ref hD3.refok n hn1 hn2)
    have HD3 := Lib.hid hD3
    clear hD3 x1 x4 g1
    go_upto_region 17 with (fail)
    go_region_held3 (fun w' => w'.cell? ⟨x, 4, none⟩ = some (.pointer (some ⟨r, 0, none⟩)) ∧ w'.cell? ⟨W.heap.size, 1, none⟩ = some (.int .i64 n)) (first | exact ⟨y4, z1⟩ | exact ⟨u4, u1⟩) ((go_at_call 58; refine HR.out.mono ?_; rintro e W4 ⟨he, m4, hW4⟩; obtain rfl := HV.out e he; have hb4 : Below (World.drew W3).heap.size (World.drew W3) W4 := (by rw [hW4]; exact below_drew _ m4); have u4 : W4.cell? ⟨x, 4, none⟩ = some (.pointer (some ⟨r, 0, none⟩)) := (by rw [hW4]; exact y4); have u1 : W4.cell? ⟨W.heap.size, 1, none⟩ = some (.int .i64 n) := (by rw [hW4]; exact z1); have H4 := Lib.hid (HD3.out.below hb4); clear he hW4 hb4))
    go_wp2_with (fail)
    go_ret
    exact ⟨rfl, _, _, _, _, _, _, _, _, _, _, _, H4.out⟩
end Sl
end Go.Proofs.Ytlknhbcambdccaa
namespace Go.Proofs.Ytlknhbcambdccaa
open Go.RowKit
namespace Sl
open Bu

theorem ok_sizes {C : Ca} {N : Nat} {L : List Blk} (H : CaOk C N L) : sizesB (C.size : Int) (C.order : Int) (C.keep : Int) = true := by
  obtain ⟨h1, h2, h3⟩ := H.sz
  have h4 := H.od
  have h5 := H.kp
  have h6 := H.fit
  unfold sizesB
  rw [decide_eq_true_eq, Int.toNat_natCast]
  refine ⟨by omega, by omega, by omega, by omega, by omega, by omega, by omega, by omega⟩
theorem Held.setx {W : World} {own : Own?} {c b N x o : Nat} {C : Ca} {L : List Blk} (h : Held W own c b C N L) (hx : own x = none) (v : Value) : Held (W.setCell ⟨x, o, none⟩ v) own c b C N L := by
  obtain ⟨⟨A, cap, R, hc⟩, hbu, hok, hfr⟩ := h
  have hk : ∀ z, own z ≠ none → (W.setCell ⟨x, o, none⟩ v).heap[z]? = W.heap[z]? := fun z hz => setCell_far _ _ _ _ (fun e => hz (by rw [e]; exact hx))
  exact ⟨⟨A, cap, R, hc.same (fun k ho _ _ => hk k ho) (fun _ _ _ => rfl) rfl⟩, hbu.keep (hk b (by rw [hc.ownB]; simp)), hok, fun k hk => by rw [setCell_size]; exact hfr k hk⟩

/-- The cache that was loaded is used from now on. -/
theorem Duo.load {w0 : World} {x c c' b r : Nat} {own own' own2 : Own?} {C : Ca} {N : Nat} {L : List Blk} {q : List RS} {A : Option Addr} {cG : Nat} {O : List Blk} {Ao : Option Addr} {co : Nat} {W W4 : World} (h : Duo w0 ⟨x, 2, none⟩ x c b r own own2 C N L q A cG O Ao co W)
    (hb : Below W.heap.size W W4) (hH : Held W4 own' c' b C N L) (ho : ∀ z, z < W.heap.size → z ≠ b → own' z = none) :
    Duo w0 ⟨x, 2, none⟩ x c' b r own' own2 C N L q A cG O Ao co (W4.setCell ⟨x, 1, none⟩ (.pointer (some ⟨c', 0, none⟩))) := by
  obtain ⟨_, _, _, hcb⟩ := h.prog.held.at_
  have hbo := hcb.ownB
  have hxl := lt_of_heap h.wrld
  have hs0 := h.prog.below.size
  have hs := hb.size
  have hxb : x ≠ b := fun e => by have := h.xnew.2.1; rw [e, hbo] at this; cases this
  have hx' := ho x hxl hxb
  have hb0 : ¬ b < w0.heap.size := fun e => by have := h.prog.out b e; rw [hbo] at this; cases this
  have h4 := h.below hb
  have hf : ∀ z, z ≠ x → (W4.setCell ⟨x, 1, none⟩ (.pointer (some ⟨c', 0, none⟩))).heap[z]? = W4.heap[z]? := fun z hz => setCell_far _ _ _ _ hz
  refine ⟨⟨hH.setx hx' _, ((h.prog.below.trans (hb.mono hs0)).setCell (p := ⟨x, 1, none⟩) h.xnew.1 _), fun z hz => ho z (by omega) (fun e => hb0 (by rw [← e]; exact hz))⟩, h4.ref.same (by rw [setCell_size]; exact Nat.le_refl _) fun k hk _ => ⟨hf k (fun e => hk (by rw [e]; exact h.xnew.2.2)), rfl⟩, h.refq, fun k hk => by rw [setCell_size]; exact h4.fr2 k hk, h.out2, fun z hz => ?_, ?_, ⟨h.xnew.1, hx', h.xnew.2.2⟩, ⟨?_, fun hL g hg => ?_⟩, ⟨?_, h.oth.2.1, fun g hg => ?_⟩, h.sub, h.nd⟩
  · by_cases hzl : z < W.heap.size
    · have : z = b := Classical.byContradiction fun e => hz (ho z hzl e)
      rw [this]; exact h.dis b (by rw [hbo]; simp)
    · exact Classical.byContradiction fun e => hzl (h.fr2 z e)
  · have := setCell_at _ _ 1 _ _ (.pointer (some ⟨c', 0, none⟩)) h4.wrld
    rw [this]; rfl
  · by_cases hL : L = []
    · have := h.st.1.len
      subst hL
      exact ⟨this.1, this.2, fun j x hx => by simp at hx⟩
    · exact h4.st.1.keep (by rw [setCell_size]; exact Nat.le_refl _) fun g hg _ => hf g (h.st.2 hL g hg).2.2.2
  · obtain ⟨k1, k2, k3, k4⟩ := h.st.2 hL g hg
    exact ⟨by rw [setCell_size]; omega, ho g k1 (fun e => by rw [e, hbo] at k2; cases k2), k3, k4⟩
  · exact h4.oth.1.keep (by rw [setCell_size]; exact Nat.le_refl _) fun g hg _ => hf g (h.oth.2.2 g hg).2.2.2
  · obtain ⟨k1, k2, k3, k4⟩ := h.oth.2.2 g hg
    exact ⟨by rw [setCell_size]; omega, ho g k1 (fun e => by rw [e, hbo] at k2; cases k2), k3, k4⟩

theorem DuoO.load {w0 : World} {x c c' b r : Nat} {own own' own2 : Own?} {C : Ca} {N : Nat} {L : List Blk} {q : List RS} {A : Option Addr} {cG : Nat} {O : List Blk} {Ao : Option Addr} {co : Nat} {W W4 : World} (h : DuoO w0 ⟨x, 2, none⟩ x c b r own own2 C N L q A cG O Ao co W)
    (hb : Below W.heap.size W W4) (hH : Held W4 own' c' b C N L) (ho : ∀ z, z < W.heap.size → z ≠ b → own' z = none) :
    DuoO w0 ⟨x, 2, none⟩ x c' b r own' own2 C N L q A cG O Ao co (W4.setCell ⟨x, 1, none⟩ (.pointer (some ⟨c', 0, none⟩))) :=
  { toDuo := h.toDuo.load hb hH ho, oo := h.toDuo.ownO h.oo fun g hg _ _ k4 => (setCell_far _ _ _ _ k4).trans (hb.block g hg) }
theorem run_neq_ptr_nil (P : Program) (w : World) (t e : TypeId) (p : Option Addr) (h : P.underlying t = some (.pointer e)) :
    (binOp .neq t (.pointer p) (.pointer none)).run P w = .ok (.bool p.isSome) w := by
  have h2 := run_equal_ptr_nil P w t e p h
  simp only [binOp]
  cases p <;> simp [h2]
theorem SbAt.mono {B B' : Nat} {w : World} {A : Option Addr} {c : Nat} {l : List (Int × List Bool)} (h : SbAt B w A c l) (hB : B' ≤ B) : SbAt B' w A c l :=
  ⟨h.1, h.2.1, fun j x hx => by
    obtain ⟨g, o, U, cu, h1, h2, h3, h4, h5, h6⟩ := h.2.2 j x hx
    refine ⟨g, o, U, cu, h1, by omega, h3, h4, h5, h6.1, h6.2.1, fun i v hv => ?_⟩
    obtain ⟨g', o', k1, k2, k3⟩ := h6.2.2 i v hv
    exact ⟨g', o', k1, by omega, k3⟩⟩
theorem save_64 {C : Ca} {N : Nat} {L : List Blk} (H : CaOk C N L) : ∀ x ∈ saveS C.sl, -9223372036854775808 ≤ x.1 ∧ x.1 < 9223372036854775808 := fun x hx => by
  unfold saveS at hx
  obtain ⟨y, hy, rfl⟩ := List.mem_map.1 hx
  have := (ok_bounds H hy).1
  show (-9223372036854775808 : Int) ≤ (y.pg : Int) ∧ (y.pg : Int) < 9223372036854775808
  omega
theorem load_yes {W W' : World} {b N : Nat} {C : Ca} {L : List Blk} {e : Ending} (H : CaOk C N L) (h : LoadR W b N C.size C.order C.keep L (saveS C.sl) e W') : ∃ c own, e = .returned (.tuple #[.pointer (some ⟨c, 0, none⟩), .int .i64 0]) ∧ Held W' own c b C N L ∧ (∀ z, z < W.heap.size → z ≠ b → own z = none) ∧ Below W.heap.size W W' := by
  obtain ⟨hb, ⟨_, _, c, own, he, hH, ho, _⟩ | ⟨hn, _⟩⟩ := h
  · rw [load_save] at hH
    exact ⟨c, own, he, hH, ho, hb⟩
  · exact absurd ⟨ok_okX H, by rw [load_save]; exact H.emp⟩ hn
theorem frozen_of_plain {W : World} {z : Nat} {cs : Array Value} {T : TypeId} (h : W.heap[z]? = some (.cells cs T (0, 0))) (i : Nat) : W.frozen? ⟨z, i, none⟩ = false := by simp [World.frozen?, h]

set_option maxRecDepth 100000 in
set_option maxHeartbeats 8000000 in
theorem does_load (w0 : World) (x b r N : Nat) (P : Nat) (hP : P < 256) (k : Nat) (hk : P % 12 = k) (hkl : k = 11) (n : Int) (hn1 : -9223372036854775808 ≤ n) (hn2 : n < 9223372036854775808) (W : World) {c : Nat} {own own2 : Own?} {C : Ca} {L : List Blk} {q : List RS} {A : Option Addr} {cG : Nat} {O : List Blk} {Ao : Option Addr} {co : Nat} (h : DuoO w0 ⟨x, 2, none⟩ x c b r own own2 C N L q A cG O Ao co W) :
    Calls Try.prog 26 #[.pointer (some ⟨x, 0, none⟩), .agg #[.int .u8 (P : Int), .int .i64 n]] W fun e W' => e = .returned (.bool true) ∧ Wld w0 x b r N W' := by
  obtain ⟨W1, hW1⟩ : ∃ W1, W1 = W.alloc (.cells #[.int .u8 (P : Int), .int .i64 n] 57) := ⟨_, rfl⟩
  have hb1 : Below W.heap.size W W1 := by rw [hW1]; exact below_box W _
  have hg1 : W1.heap[W.heap.size]? = some (.cells #[.int .u8 (P : Int), .int .i64 n] 57 (0, 0)) := by rw [hW1, heapAlloc, if_pos rfl]
  have h1 := h.below hb1
  obtain ⟨g0, g1, _, _⟩ := Bu.two_cells hg1
  obtain ⟨x0, x1, _, _, x4, _⟩ := six_cells h1.wrld
  have hgl : W.heap.size < W1.heap.size := by rw [hW1]; simp
  have hxl := lt_of_heap h1.wrld
  obtain ⟨M, hM⟩ : ∃ M, M = objC C := ⟨_, rfl⟩
  have hO := objectsR_ok W1 own2 r ⟨x, 2, none⟩ C.size C.order C.keep N L q h1.ref h1.fr2 h1.refok
  rw [show objC (refC C.size C.order C.keep q) = M by rw [hM]; unfold refC; rw [h1.refq]] at hO
  have HO := Lib.hid hO
  have HW := Lib.hid hW1
  have H1 := Lib.hid (And.intro h1 hM)
  have HGN := Lib.hid (show own W.heap.size = none ∧ own2 W.heap.size = none ∧ W.heap.size ≠ x from ⟨Classical.byContradiction fun e => by have := h.prog.held.fresh _ e; omega, Classical.byContradiction fun e => by have := h.fr2 _ e; omega, by have := lt_of_heap h.wrld; omega⟩)
  have hki : (P : Int) % 12 = (k : Int) := by omega
  have eP : (0 : Int) ≤ (P : Int) := by omega
  have eP2 : (P : Int) < 256 := by omega
  subst hkl
  have hki : (P : Int) % 12 = 11 := hki
  clear hW1 hb1 hg1 h1 h hO hM hk hP
  go_enter Try.func26, Try.ntmps26
  go_upto_region 1 with (fail)
  rw [← HW.out]
  go_wp2_with (go_at_call 53; fail)
  refine HO.out.mono ?_
  rintro _ W2 ⟨⟨A2, c2, rfl, ho2⟩, hb2⟩
  obtain ⟨ml, hml⟩ : ∃ ml, ml = M.length := ⟨_, rfl⟩
  rw [← hml]
  replace x0 := (hb2.cell (p := ⟨x, 0, none⟩) hxl).trans x0
  replace x1 := (hb2.cell (p := ⟨x, 1, none⟩) hxl).trans x1
  replace x4 := (hb2.cell (p := ⟨x, 4, none⟩) hxl).trans x4
  replace g0 := (hb2.cell (p := ⟨W.heap.size, 0, none⟩) hgl).trans g0
  replace g1 := (hb2.cell (p := ⟨W.heap.size, 1, none⟩) hgl).trans g1
  have hxl2 : x < W2.heap.size := Nat.lt_of_lt_of_le hxl hb2.size
  have hgl2 : W.heap.size < W2.heap.size := Nat.lt_of_lt_of_le hgl hb2.size
  have H2 := Lib.hid (And.intro (H1.out.1.below hb2) (And.intro (own64_at ho2) hml))
  clear ho2 hb2 hml
  have hD := H2.out.1.below (below_drew W2 1)
  have hS := saveS_ok (World.drew W2) own c b C N L hD.prog.held
  obtain ⟨nl, hnl⟩ : ∃ nl, nl = C.sl.length := ⟨_, rfl⟩
  rw [← hnl] at hS
  have HS := Lib.hid hS
  have HL := Lib.hid hnl
  have HD := Lib.hid hD
  have hneq := fun w p => run_neq_ptr_nil Try.prog w 22 _ p Try.underlying22
  clear hD hS hnl
  go_upto_region 21 with (fail)
  go_region_held3 (fun w' => w'.cell? ⟨x, 0, none⟩ = some (.pointer (some ⟨b, 0, none⟩)) ∧ w'.cell? ⟨x, 1, none⟩ = some (.pointer (some ⟨c, 0, none⟩))) (first | exact ⟨x0, x1⟩ | exact ⟨y0, y1⟩ | exact ⟨z0, z1⟩) (first
    | (go_at_call 27; refine HS.out.mono ?_; rintro _ W3 ⟨⟨A3, c3, rfl, hsb⟩, hb3⟩; have y0 : W3.cell? ⟨x, 0, none⟩ = some (.pointer (some ⟨b, 0, none⟩)) := (hb3.cell (p := ⟨x, 0, none⟩) hxl2).trans x0; have y1 : W3.cell? ⟨x, 1, none⟩ = some (.pointer (some ⟨c, 0, none⟩)) := (hb3.cell (p := ⟨x, 1, none⟩) hxl2).trans x1; have hxl3 : x < W3.heap.size := Nat.lt_of_lt_of_le hxl2 hb3.size; have hlw := load_walk W3 b N C.size C.order C.keep L A3 c3 (saveS C.sl) ((HD.out.below hb3).prog.held.bu) (ok_sizes H2.out.1.prog.held.ok) (hsb.mono (Nat.zero_le _)) (save_64 H2.out.1.prog.held.ok); rw [saveS_len, ← HL.out] at hlw; have HLW := Lib.hid hlw; have H3 := Lib.hid (HD.out.below hb3); clear hsb hb3 hlw)
    | (go_at_call 30; refine HLW.out.mono ?_; intro e W4 hlr; obtain ⟨c4, own4, rfl, hH4, ho4, hb4⟩ := load_yes H2.out.1.prog.held.ok hlr; have z0 : W4.cell? ⟨x, 0, none⟩ = some (.pointer (some ⟨b, 0, none⟩)) := (hb4.cell (p := ⟨x, 0, none⟩) hxl3).trans y0; have z1 : W4.cell? ⟨x, 1, none⟩ = some (.pointer (some ⟨c, 0, none⟩)) := (hb4.cell (p := ⟨x, 1, none⟩) hxl3).trans y1; have hf4 : W4.frozen? ⟨x, 1, none⟩ = false := frozen_of_plain (H3.out.below hb4).wrld 1; have H4 := Lib.hid (And.intro hb4 (And.intro hH4 ho4)); clear hb4 hH4 ho4 hlr))
  go_wp2_with (fail)
  go_ret
  exact ⟨rfl, _, _, _, _, _, _, _, _, _, _, _, H3.out.load H4.out.1 H4.out.2.1 H4.out.2.2⟩
end Sl
end Go.Proofs.Ytlknhbcambdccaa
