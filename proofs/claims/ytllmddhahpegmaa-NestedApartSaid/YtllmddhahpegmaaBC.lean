/- The reference: items, wrong, Check. -/
import Derived.Test.YtllmddhahpegmaaBB
namespace Go.Proofs.Ytllmddhahpegmaa
open Go.RowKit
namespace Ne

theorem drop_at {α : Type} {l : List α} {j : Nat} {x : α} (h : l[j]? = some x) : l.drop j = x :: l.drop (j + 1) := by
  obtain ⟨hj, e⟩ := List.getElem?_eq_some_iff.1 h
  rw [List.drop_eq_getElem_cons hj, e]

theorem find_of {M : Tr} {k : Int} {n : Node} (h0 : 0 ≤ k) (h : M[k.toNat]? = some (some n)) : find M k = some n := by
  unfold find
  rw [if_neg (by omega), h]; rfl

set_option maxRecDepth 100000 in
set_option maxHeartbeats 2000000 in
theorem items_ok (K : Nat → Prop) (w : World) (A : Option Addr) (c : Nat) (M : Tr) (i : Nat) (n : Node) (h : StK K w A c (save M)) (hg : Good M) (hi : M[i]? = some (some n)) :
    Calls Try.prog 51 #[.agg #[.slice A M.length c], .int .i64 i] w fun e w' => e = .returned (.bool true) ∧ Below w.heap.size w w' := by
  obtain ⟨hc1, hc2⟩ := st_len h
  have hm := hg.len
  have hok := hg.node i n hi
  have hil := (List.getElem?_eq_some_iff.1 hi).1
  have ha0 := hok.a0
  have hs1 := hok.s1
  have htop := hok.top
  have hln := hok.len
  obtain ⟨g, f, B, cB, rfl, hgl, p0, p1, p2, p3, p4, hR⟩ := st_at h hi
  obtain ⟨hr1, hr2⟩ := row_len hR
  replace hr1 : n.l.length ≤ cB := hr1
  have HR := Lib.hid (show RowK K w B cB n.l from hR)
  have hb0 := below_box w (.cells #[.slice (some ⟨g, f, none⟩) M.length c] 28)
  replace p0 : (w.alloc (.cells #[.slice (some ⟨g, f, none⟩) M.length c] 28)).cell? ⟨g, f + i * 5, none⟩ = some (.int .i64 n.p) := (hb0.cell (p := ⟨g, _, none⟩) hgl).trans p0
  replace p1 : (w.alloc (.cells #[.slice (some ⟨g, f, none⟩) M.length c] 28)).cell? ⟨g, f + i * 5 + 1, none⟩ = some (.int .i64 n.a) := (hb0.cell (p := ⟨g, _, none⟩) hgl).trans p1
  replace p2 : (w.alloc (.cells #[.slice (some ⟨g, f, none⟩) M.length c] 28)).cell? ⟨g, f + i * 5 + 2, none⟩ = some (.int .i64 n.s) := (hb0.cell (p := ⟨g, _, none⟩) hgl).trans p2
  replace p3 : (w.alloc (.cells #[.slice (some ⟨g, f, none⟩) M.length c] 28)).cell? ⟨g, f + i * 5 + 3, none⟩ = some (.slice B n.l.length cB) := (hb0.cell (p := ⟨g, _, none⟩) hgl).trans p3
  replace p4 : (w.alloc (.cells #[.slice (some ⟨g, f, none⟩) M.length c] 28)).cell? ⟨g, f + i * 5 + 4, none⟩ = some (.bool false) := (hb0.cell (p := ⟨g, _, none⟩) hgl).trans p4
  have HG := Lib.hid (And.intro hg (And.intro hok (And.intro h hi)))
  clear h hg hok hi hR hb0
  go_enter Try.func51, Try.ntmps51
  go_wp2_with fail
  have hb0 : Below w.heap.size w ((w.alloc (.cells #[.slice (some ⟨g, f, none⟩) M.length c] 28)).alloc (.cells #[.int .i64 n.p, .int .i64 n.a, .int .i64 n.s, .slice B n.l.length cB, .bool false] 35)) := ((Below.refl _ _).alloc (Nat.le_refl _) _).alloc (by simp) _
  have b2 : ((w.alloc (.cells #[.slice (some ⟨g, f, none⟩) M.length c] 28)).alloc (.cells #[.int .i64 n.p, .int .i64 n.a, .int .i64 n.s, .slice B n.l.length cB, .bool false] 35)).cell? ⟨w.heap.size, 0, none⟩ = some (.slice (some ⟨g, f, none⟩) M.length c) := by
    rw [World.cell?_alloc_lt _ _ _ (by simp), World.cell?_alloc_at _ _ _ _ rfl]; rfl
  have b5 : ∀ o v, (#[.int .i64 n.p, .int .i64 n.a, .int .i64 n.s, .slice B n.l.length cB, .bool false] : Array Value)[o]? = some v → ((w.alloc (.cells #[.slice (some ⟨g, f, none⟩) M.length c] 28)).alloc (.cells #[.int .i64 n.p, .int .i64 n.a, .int .i64 n.s, .slice B n.l.length cB, .bool false] 35)).cell? ⟨w.heap.size + 1, o, none⟩ = some v := by
    intro o v hv
    rw [World.cell?_alloc_at _ _ _ _ (by simp)]; exact hv
  have b51 := b5 1 _ rfl
  have b52 := b5 2 _ rfl
  have b53 := b5 3 _ rfl
  have hsz : ((w.alloc (.cells #[.slice (some ⟨g, f, none⟩) M.length c] 28)).alloc (.cells #[.int .i64 n.p, .int .i64 n.a, .int .i64 n.s, .slice B n.l.length cB, .bool false] 35)).heap.size = w.heap.size + 2 := by simp
  generalize ((w.alloc (.cells #[.slice (some ⟨g, f, none⟩) M.length c] 28)).alloc (.cells #[.int .i64 n.p, .int .i64 n.a, .int .i64 n.s, .slice B n.l.length cB, .bool false] 35)) = W1 at *
  have HB0 := Lib.hid hb0
  clear b5 p0 p1 p2 p3 p4 hb0
  go_loopw [6, 7, 8, 9] (fun at_ k _ _ wr => ∃ (j : Nat) (lo : Int), j ≤ n.l.length ∧ k = .int .i64 j ∧ at_ = .int .i64 lo ∧ Seq lo (n.a + n.s) (n.l.drop j) ∧ Below W1.heap.size W1 wr) (fun _ k _ _ _ => n.l.length - (intOf k).toNat)
  case atStart => exact ⟨0, n.a, Nat.zero_le _, rfl, rfl, HG.out.2.1.seq, Below.refl _ _⟩
  case round =>
    obtain ⟨j, lo, hj, rfl, rfl, hseq, hb⟩ := hrel
    have b2 := (hb.cell (p := ⟨w.heap.size, _, none⟩) (show w.heap.size < W1.heap.size by omega)).trans b2
    have b51 := (hb.cell (p := ⟨w.heap.size + 1, _, none⟩) (show w.heap.size + 1 < W1.heap.size by omega)).trans b51
    have b52 := (hb.cell (p := ⟨w.heap.size + 1, _, none⟩) (show w.heap.size + 1 < W1.heap.size by omega)).trans b52
    have b53 := (hb.cell (p := ⟨w.heap.size + 1, _, none⟩) (show w.heap.size + 1 < W1.heap.size by omega)).trans b53
    have hbs := hb.size
    by_cases hjl : j < n.l.length
    · obtain ⟨x, hx⟩ : ∃ x, n.l[j]? = some x := ⟨_, List.getElem?_eq_getElem hjl⟩
      rw [drop_at hx] at hseq
      obtain ⟨q1, q2, q3, hseq⟩ := hseq
      have hxm := List.mem_of_getElem? hx
      have hlow := HG.out.2.1.low x hxm
      obtain ⟨g2, f2, rfl, hg2, s0, s1, s2⟩ := row_at HR.out hx
      have hbz := Lib.hid (HB0.out.trans (hb.mono (by omega)))
      replace s0 := (hbz.out.cell (p := ⟨g2, _, none⟩) hg2).trans s0
      replace s1 := (hbz.out.cell (p := ⟨g2, _, none⟩) hg2).trans s1
      replace s2 := (hbz.out.cell (p := ⟨g2, _, none⟩) hg2).trans s2
      have m1 : (x.a ≤ n.a + n.s - x.s) := by omega
      have hlo : 0 ≤ x.a ∨ x.a < 0 := by omega
      have hmem := (HG.out.2.1.seq.mem x hxm)
      have m2 : n.a ≤ x.a := hmem.1
      have hbq := below_box wr (.cells #[.int .i64 x.a, .int .i64 x.s, .int .i64 x.c] 54)
      have d2 := (hbq.cell (p := ⟨w.heap.size, _, none⟩) (show w.heap.size < wr.heap.size by omega)).trans b2
      have d51 := (hbq.cell (p := ⟨w.heap.size + 1, _, none⟩) (show w.heap.size + 1 < wr.heap.size by omega)).trans b51
      have d52 := (hbq.cell (p := ⟨w.heap.size + 1, _, none⟩) (show w.heap.size + 1 < wr.heap.size by omega)).trans b52
      clear hbq
      have HE := Lib.hid (And.intro hseq hb)
      have HK := Lib.hid (fun h0 : 0 ≤ x.c => HG.out.2.1.kid x hxm h0)
      clear hseq hb hx hxm hmem hlo
      by_cases hc0 : 0 ≤ x.c
      · obtain ⟨kk, hkk, kp, ka, ks⟩ := HK.out hc0
        have hfk := find_of hc0 hkk
        have hbA := hbz.out.trans ((below_box wr (.cells #[.int .i64 x.a, .int .i64 x.s, .int .i64 x.c] 54)).mono hbz.out.size)
        have hOp := open_yes K (wr.alloc (.cells #[.int .i64 x.a, .int .i64 x.s, .int .i64 x.c] 54)) (some ⟨g, f, none⟩) c M x.c kk (HG.out.2.2.1.below hbA) hfk
        obtain ⟨q, hq⟩ := Int.eq_ofNat_of_zero_le hc0
        rw [hq] at hkk
        rw [Int.toNat_natCast] at hkk
        have hqM := (List.getElem?_eq_some_iff.1 hkk).1
        obtain ⟨g4, f4, B4, cB4, e4, hg4, t0, t1, t2, t3, t4, _⟩ := st_at HG.out.2.2.1 hkk
        injection e4 with e4
        injection e4 with e5 e6 e7
        subst e5 e6
        rw [hq] at hOp s2
        have r8 : ∀ o v, (#[.int .i64 x.a, .int .i64 x.s, .int .i64 x.c] : Array Value)[o]? = some v → (wr.alloc (.cells #[.int .i64 x.a, .int .i64 x.s, .int .i64 x.c] 54)).cell? ⟨wr.heap.size, o, none⟩ = some v := by
          intro o v hv
          rw [World.cell?_alloc_at _ _ _ _ rfl]; exact hv
        have r80 := r8 0 _ rfl
        have r81 := r8 1 _ rfl
        have r82 := r8 2 _ rfl
        rw [hq] at hbA r80 r81 r82 d2 d51 d52
        have HO := Lib.hid (And.intro hOp hbA)
        replace t0 : w.cell? ⟨g, f + q * 5, none⟩ = some (.int .i64 i) := by rw [← kp]; exact t0
        replace t1 : w.cell? ⟨g, f + q * 5 + 1, none⟩ = some (.int .i64 x.a) := by rw [← ka]; exact t1
        replace t2 : w.cell? ⟨g, f + q * 5 + 2, none⟩ = some (.int .i64 x.s) := by rw [← ks]; exact t2
        clear hkk kp ka ks hfk r8 hOp hbA HK hc0 hlow hq
        generalize x.a = xa at *
        generalize x.s = xs at *
        go_wp2_with (go_at_call 52; fail)
        refine HO.out.1.mono ?_
        rintro e w5 ⟨rfl, hb5⟩
        generalize hw4 : (wr.alloc (.cells #[.int .i64 xa, .int .i64 xs, .int .i64 (q : Int)] 54)) = W4 at *
        have hW4 : W4.heap.size = wr.heap.size + 1 := by rw [← hw4]; simp
        have b2 : w5.cell? ⟨w.heap.size, 0, none⟩ = some (.slice (some ⟨g, f, none⟩) M.length c) := (hb5.cell (p := ⟨w.heap.size, _, none⟩) (show w.heap.size < W4.heap.size by omega)).trans (by rw [← hw4]; exact (World.cell?_alloc_lt _ _ _ (show w.heap.size < wr.heap.size by omega)).trans b2)
        have r80 := (hb5.cell (p := ⟨wr.heap.size, _, none⟩) (show wr.heap.size < W4.heap.size by omega)).trans r80
        have r81 := (hb5.cell (p := ⟨wr.heap.size, _, none⟩) (show wr.heap.size < W4.heap.size by omega)).trans r81
        have r82 := (hb5.cell (p := ⟨wr.heap.size, _, none⟩) (show wr.heap.size < W4.heap.size by omega)).trans r82
        have hb45 := HO.out.2.trans (hb5.mono HO.out.2.size)
        replace t0 := (hb45.cell (p := ⟨g, _, none⟩) hgl).trans t0
        replace t1 := (hb45.cell (p := ⟨g, _, none⟩) hgl).trans t1
        replace t2 := (hb45.cell (p := ⟨g, _, none⟩) hgl).trans t2
        replace t3 := (hb45.cell (p := ⟨g, _, none⟩) hgl).trans t3
        replace t4 := (hb45.cell (p := ⟨g, _, none⟩) hgl).trans t4
        replace t3 : w5.cell? ⟨g, f + q * 5 + 3, none⟩ = some (.slice B4 kk.l.length cB4) := t3
        replace t4 : w5.cell? ⟨g, f + q * 5 + 4, none⟩ = some (.bool false) := t4
        have hbq := below_box w5 (.cells #[.int .i64 i, .int .i64 xa, .int .i64 xs, .slice B4 kk.l.length cB4, .bool false] 35)
        have hb5s := hb5.size
        have d80 := (hbq.cell (p := ⟨wr.heap.size, _, none⟩) (show wr.heap.size < w5.heap.size by omega)).trans r80
        have d81 := (hbq.cell (p := ⟨wr.heap.size, _, none⟩) (show wr.heap.size < w5.heap.size by omega)).trans r81
        clear hbq
        have HW5 := Lib.hid (And.intro hb5 hw4)
        clear hb5 hw4 hb45 s0 s1 s2 b51 b52 b53 d2 d51 d52
        go_wp2
        go_roundw
        case rel =>
          refine ⟨j + 1, _, by omega, by go_num, rfl, HE.out.1, ?_⟩
          have h1 : Below W1.heap.size W1 W4 := by rw [← HW5.out.2]; exact HE.out.2.alloc HE.out.2.size _
          exact (h1.trans (HW5.out.1.mono h1.size)).alloc (by omega) _
        case measure => simp [intOf]; omega
      · clear HK
        generalize x.a = xa at *
        generalize x.s = xs at *
        generalize x.c = xc at *
        go_wp2
        go_roundw
        case rel => exact ⟨j + 1, _, by omega, by go_num, rfl, HE.out.1, HE.out.2.alloc HE.out.2.size _⟩
        case measure => simp [intOf]; omega
    · obtain rfl : j = n.l.length := by omega
      have HE := Lib.hid (HB0.out.trans (hb.mono (by omega)))
      by_cases hz : n.l.length = 0
      · have hp0 : ((n.l.length : Int) == 0) = true := by rw [beq_iff_eq]; omega
        clear hseq hb HG HR
        generalize hL : n.l.length = L at *
        clear hL
        go_wp2
        go_ret
        exact ⟨rfl, HE.out⟩
      · obtain ⟨x, hx⟩ : ∃ x, n.l[n.l.length - 1]? = some x := ⟨_, List.getElem?_eq_getElem (by omega)⟩
        have hlast := HG.out.2.1.last x (by rw [List.getLast?_eq_getElem?]; exact hx)
        obtain ⟨g2, f2, rfl, hg2, _, _, s2⟩ := row_at HR.out hx
        replace s2 := (HE.out.cell (p := ⟨g2, _, none⟩) hg2).trans s2
        have hxb : (x.c == -2) = false := by rw [beq_eq_false_iff_ne]; exact hlast
        have hxb2 : (x.c != -2) = true := by rw [bne, hxb]; rfl
        have hp : 0 < n.l.length := by omega
        have hp0 : ((n.l.length : Int) == 0) = false := by rw [beq_eq_false_iff_ne]; omega
        clear hseq hb hx hlast hz hjl hj HG HR
        generalize x.c = xc at *
        generalize hL : n.l.length = L at *
        clear hL
        go_wp2
        go_ret
        exact ⟨rfl, HE.out⟩
end Ne
end Go.Proofs.Ytllmddhahpegmaa
