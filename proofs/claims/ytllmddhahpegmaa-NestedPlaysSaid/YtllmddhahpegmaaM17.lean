/- The reference: items, wrong, Check. The reference: wrong, Check. The reference: Check. -/
import Derived.Test.YtllmddhahpegmaaM14
namespace Go.Proofs.Ytllmddhahpegmaa
open Go.RowKit
namespace Ne

theorem drop_at {α : Type} {l : List α} {j : Nat} {x : α} (h : l[j]? = some x) : l.drop j = x :: l.drop (j + 1) := by
  obtain ⟨hj, e⟩ := List.getElem?_eq_some_iff.1 h
  rw [List.drop_eq_getElem_cons hj, e]

theorem find_of {M : Tr} {k : Int} {n : Node} (h0 : 0 ≤ k) (h : M[k.toNat]? = some (some n)) : find M k = some n := by
  unfold find
  rw [if_neg (by omega), h]; rfl

set_option maxRecDepth 100000 in
set_option maxHeartbeats 2000000 in
theorem items_ok (K : Nat → Prop) (w : World) (A : Option Addr) (c : Nat) (M : Tr) (i : Nat) (n : Node) (h : StK K w A c (save M)) (hg : Good M) (hi : M[i]? = some (some n)) :
    Calls Try.prog 51 #[.agg #[.slice A M.length c], .int .i64 i] w fun e w' => e = .returned (.bool true) ∧ Below w.heap.size w w' := by
  obtain ⟨hc1, hc2⟩ := st_len h
  have hm := hg.len
  have hok := hg.node i n hi
  have hil := (List.getElem?_eq_some_iff.1 hi).1
  have ha0 := hok.a0
  have hs1 := hok.s1
  have htop := hok.top
  have hln := hok.len
  obtain ⟨g, f, B, cB, rfl, hgl, p0, p1, p2, p3, p4, hR⟩ := st_at h hi
  obtain ⟨hr1, hr2⟩ := row_len hR
  replace hr1 : n.l.length ≤ cB := hr1
  have HR := Lib.hid (show RowK K w B cB n.l from hR)
  have hb0 := below_box w (.cells #[.slice (some ⟨g, f, none⟩) M.length c] 28)
  replace p0 : (w.alloc (.cells #[.slice (some ⟨g, f, none⟩) M.length c] 28)).cell? ⟨g, f + i * 5, none⟩ = some (.int .i64 n.p) := (hb0.cell (p := ⟨g, _, none⟩) hgl).trans p0
  replace p1 : (w.alloc (.cells #[.slice (some ⟨g, f, none⟩) M.length c] 28)).cell? ⟨g, f + i * 5 + 1, none⟩ = some (.int .i64 n.a) := (hb0.cell (p := ⟨g, _, none⟩) hgl).trans p1
  replace p2 : (w.alloc (.cells #[.slice (some ⟨g, f, none⟩) M.length c] 28)).cell? ⟨g, f + i * 5 + 2, none⟩ = some (.int .i64 n.s) := (hb0.cell (p := ⟨g, _, none⟩) hgl).trans p2
  replace p3 : (w.alloc (.cells #[.slice (some ⟨g, f, none⟩) M.length c] 28)).cell? ⟨g, f + i * 5 + 3, none⟩ = some (.slice B n.l.length cB) := (hb0.cell (p := ⟨g, _, none⟩) hgl).trans p3
  replace p4 : (w.alloc (.cells #[.slice (some ⟨g, f, none⟩) M.length c] 28)).cell? ⟨g, f + i * 5 + 4, none⟩ = some (.bool false) := (hb0.cell (p := ⟨g, _, none⟩) hgl).trans p4
  have HG := Lib.hid (And.intro hg (And.intro hok (And.intro h hi)))
  clear h hg hok hi hR hb0
  go_enter Try.func51, Try.ntmps51
  go_wp2_with fail
  have hb0 : Below w.heap.size w ((w.alloc (.cells #[.slice (some ⟨g, f, none⟩) M.length c] 28)).alloc (.cells #[.int .i64 n.p, .int .i64 n.a, .int .i64 n.s, .slice B n.l.length cB, .bool false] 35)) := ((Below.refl _ _).alloc (Nat.le_refl _) _).alloc (by simp) _
  have b2 : ((w.alloc (.cells #[.slice (some ⟨g, f, none⟩) M.length c] 28)).alloc (.cells #[.int .i64 n.p, .int .i64 n.a, .int .i64 n.s, .slice B n.l.length cB, .bool false] 35)).cell? ⟨w.heap.size, 0, none⟩ = some (.slice (some ⟨g, f, none⟩) M.length c) := by
    rw [World.cell?_alloc_lt _ _ _ (by simp), World.cell?_alloc_at _ _ _ _ rfl]; rfl
  have b5 : ∀ o v, (#[.int .i64 n.p, .int .i64 n.a, .int .i64 n.s, .slice B n.l.length cB, .bool false] : Array Value)[o]? = some v → ((w.alloc (.cells #[.slice (some ⟨g, f, none⟩) M.length c] 28)).alloc (.cells #[.int .i64 n.p, .int .i64 n.a, .int .i64 n.s, .slice B n.l.length cB, .bool false] 35)).cell? ⟨w.heap.size + 1, o, none⟩ = some v := by
    intro o v hv
    rw [World.cell?_alloc_at _ _ _ _ (by simp)]; exact hv
  have b51 := b5 1 _ rfl
  have b52 := b5 2 _ rfl
  have b53 := b5 3 _ rfl
  have hsz : ((w.alloc (.cells #[.slice (some ⟨g, f, none⟩) M.length c] 28)).alloc (.cells #[.int .i64 n.p, .int .i64 n.a, .int .i64 n.s, .slice B n.l.length cB, .bool false] 35)).heap.size = w.heap.size + 2 := by simp
  generalize ((w.alloc (.cells #[.slice (some ⟨g, f, none⟩) M.length c] 28)).alloc (.cells #[.int .i64 n.p, .int .i64 n.a, .int .i64 n.s, .slice B n.l.length cB, .bool false] 35)) = W1 at *
  have HB0 := Lib.hid hb0
  clear b5 p0 p1 p2 p3 p4 hb0
  go_loopw [6, 7, 8, 9] (fun at_ k _ _ wr => ∃ (j : Nat) (lo : Int), j ≤ n.l.length ∧ k = .int .i64 j ∧ at_ = .int .i64 lo ∧ Seq lo (n.a + n.s) (n.l.drop j) ∧ Below W1.heap.size W1 wr) (fun _ k _ _ _ => n.l.length - (intOf k).toNat)
  case atStart => exact ⟨0, n.a, Nat.zero_le _, rfl, rfl, HG.out.2.1.seq, Below.refl _ _⟩
  case round =>
    obtain ⟨j, lo, hj, rfl, rfl, hseq, hb⟩ := hrel
    have b2 := (hb.cell (p := ⟨w.heap.size, _, none⟩) (show w.heap.size < W1.heap.size by omega)).trans b2
    have b51 := (hb.cell (p := ⟨w.heap.size + 1, _, none⟩) (show w.heap.size + 1 < W1.heap.size by omega)).trans b51
    have b52 := (hb.cell (p := ⟨w.heap.size + 1, _, none⟩) (show w.heap.size + 1 < W1.heap.size by omega)).trans b52
    have b53 := (hb.cell (p := ⟨w.heap.size + 1, _, none⟩) (show w.heap.size + 1 < W1.heap.size by omega)).trans b53
    have hbs := hb.size
    by_cases hjl : j < n.l.length
    · obtain ⟨x, hx⟩ : ∃ x, n.l[j]? = some x := ⟨_, List.getElem?_eq_getElem hjl⟩
      rw [drop_at hx] at hseq
      obtain ⟨q1, q2, q3, hseq⟩ := hseq
      have hxm := List.mem_of_getElem? hx
      have hlow := HG.out.2.1.low x hxm
      obtain ⟨g2, f2, rfl, hg2, s0, s1, s2⟩ := row_at HR.out hx
      have hbz := Lib.hid (HB0.out.trans (hb.mono (by omega)))
      replace s0 := (hbz.out.cell (p := ⟨g2, _, none⟩) hg2).trans s0
      replace s1 := (hbz.out.cell (p := ⟨g2, _, none⟩) hg2).trans s1
      replace s2 := (hbz.out.cell (p := ⟨g2, _, none⟩) hg2).trans s2
      have m1 : (x.a ≤ n.a + n.s - x.s) := by omega
      have hlo : 0 ≤ x.a ∨ x.a < 0 := by omega
      have hmem := (HG.out.2.1.seq.mem x hxm)
      have m2 : n.a ≤ x.a := hmem.1
      have hbq := below_box wr (.cells #[.int .i64 x.a, .int .i64 x.s, .int .i64 x.c] 54)
      have d2 := (hbq.cell (p := ⟨w.heap.size, _, none⟩) (show w.heap.size < wr.heap.size by omega)).trans b2
      have d51 := (hbq.cell (p := ⟨w.heap.size + 1, _, none⟩) (show w.heap.size + 1 < wr.heap.size by omega)).trans b51
      have d52 := (hbq.cell (p := ⟨w.heap.size + 1, _, none⟩) (show w.heap.size + 1 < wr.heap.size by omega)).trans b52
      clear hbq
      have HE := Lib.hid (And.intro hseq hb)
      have HK := Lib.hid (fun h0 : 0 ≤ x.c => HG.out.2.1.kid x hxm h0)
      clear hseq hb hx hxm hmem hlo
      by_cases hc0 : 0 ≤ x.c
      · obtain ⟨kk, hkk, kp, ka, ks⟩ := HK.out hc0
        have hfk := find_of hc0 hkk
        have hbA := hbz.out.trans ((below_box wr (.cells #[.int .i64 x.a, .int .i64 x.s, .int .i64 x.c] 54)).mono hbz.out.size)
        have hOp := open_yes K (wr.alloc (.cells #[.int .i64 x.a, .int .i64 x.s, .int .i64 x.c] 54)) (some ⟨g, f, none⟩) c M x.c kk (HG.out.2.2.1.below hbA) hfk
        obtain ⟨q, hq⟩ := Int.eq_ofNat_of_zero_le hc0
        rw [hq] at hkk
        rw [Int.toNat_natCast] at hkk
        have hqM := (List.getElem?_eq_some_iff.1 hkk).1
        obtain ⟨g4, f4, B4, cB4, e4, hg4, t0, t1, t2, t3, t4, _⟩ := st_at HG.out.2.2.1 hkk
        injection e4 with e4
        injection e4 with e5 e6 e7
        subst e5 e6
        rw [hq] at hOp s2
        have r8 : ∀ o v, (#[.int .i64 x.a, .int .i64 x.s, .int .i64 x.c] : Array Value)[o]? = some v → (wr.alloc (.cells #[.int .i64 x.a, .int .i64 x.s, .int .i64 x.c] 54)).cell? ⟨wr.heap.size, o, none⟩ = some v := by
          intro o v hv
          rw [World.cell?_alloc_at _ _ _ _ rfl]; exact hv
        have r80 := r8 0 _ rfl
        have r81 := r8 1 _ rfl
        have r82 := r8 2 _ rfl
        rw [hq] at hbA r80 r81 r82 d2 d51 d52
        have HO := Lib.hid (And.intro hOp hbA)
        replace t0 : w.cell? ⟨g, f + q * 5, none⟩ = some (.int .i64 i) := by rw [← kp]; exact t0
        replace t1 : w.cell? ⟨g, f + q * 5 + 1, none⟩ = some (.int .i64 x.a) := by rw [← ka]; exact t1
        replace t2 : w.cell? ⟨g, f + q * 5 + 2, none⟩ = some (.int .i64 x.s) := by rw [← ks]; exact t2
        clear hkk kp ka ks hfk r8 hOp hbA HK hc0 hlow hq
        generalize x.a = xa at *
        generalize x.s = xs at *
        go_wp2_with (go_at_call 52; fail)
        refine HO.out.1.mono ?_
        rintro e w5 ⟨rfl, hb5⟩
        generalize hw4 : (wr.alloc (.cells #[.int .i64 xa, .int .i64 xs, .int .i64 (q : Int)] 54)) = W4 at *
        have hW4 : W4.heap.size = wr.heap.size + 1 := by rw [← hw4]; simp
        have b2 : w5.cell? ⟨w.heap.size, 0, none⟩ = some (.slice (some ⟨g, f, none⟩) M.length c) := (hb5.cell (p := ⟨w.heap.size, _, none⟩) (show w.heap.size < W4.heap.size by omega)).trans (by rw [← hw4]; exact (World.cell?_alloc_lt _ _ _ (show w.heap.size < wr.heap.size by omega)).trans b2)
        have r80 := (hb5.cell (p := ⟨wr.heap.size, _, none⟩) (show wr.heap.size < W4.heap.size by omega)).trans r80
        have r81 := (hb5.cell (p := ⟨wr.heap.size, _, none⟩) (show wr.heap.size < W4.heap.size by omega)).trans r81
        have r82 := (hb5.cell (p := ⟨wr.heap.size, _, none⟩) (show wr.heap.size < W4.heap.size by omega)).trans r82
        have hb45 := HO.out.2.trans (hb5.mono HO.out.2.size)
        replace t0 := (hb45.cell (p := ⟨g, _, none⟩) hgl).trans t0
        replace t1 := (hb45.cell (p := ⟨g, _, none⟩) hgl).trans t1
        replace t2 := (hb45.cell (p := ⟨g, _, none⟩) hgl).trans t2
        replace t3 := (hb45.cell (p := ⟨g, _, none⟩) hgl).trans t3
        replace t4 := (hb45.cell (p := ⟨g, _, none⟩) hgl).trans t4
        replace t3 : w5.cell? ⟨g, f + q * 5 + 3, none⟩ = some (.slice B4 kk.l.length cB4) := t3
        replace t4 : w5.cell? ⟨g, f + q * 5 + 4, none⟩ = some (.bool false) := t4
        have hbq := below_box w5 (.cells #[.int .i64 i, .int .i64 xa, .int .i64 xs, .slice B4 kk.l.length cB4, .bool false] 35)
        have hb5s := hb5.size
        have d80 := (hbq.cell (p := ⟨wr.heap.size, _, none⟩) (show wr.heap.size < w5.heap.size by omega)).trans r80
        have d81 := (hbq.cell (p := ⟨wr.heap.size, _, none⟩) (show wr.heap.size < w5.heap.size by omega)).trans r81
        clear hbq
        have HW5 := Lib.hid (And.intro hb5 hw4)
        clear hb5 hw4 hb45 s0 s1 s2 b51 b52 b53 d2 d51 d52
        go_wp2
        go_roundw
        case rel =>
          refine ⟨j + 1, _, by omega, by go_num, rfl, HE.out.1, ?_⟩
          have h1 : Below W1.heap.size W1 W4 := by rw [← HW5.out.2]; exact HE.out.2.alloc HE.out.2.size _
          exact (h1.trans (HW5.out.1.mono h1.size)).alloc (by omega) _
        case measure => simp [intOf]; omega
      · clear HK
        generalize x.a = xa at *
        generalize x.s = xs at *
        generalize x.c = xc at *
        go_wp2
        go_roundw
        case rel => exact ⟨j + 1, _, by omega, by go_num, rfl, HE.out.1, HE.out.2.alloc HE.out.2.size _⟩
        case measure => simp [intOf]; omega
    · obtain rfl : j = n.l.length := by omega
      have HE := Lib.hid (HB0.out.trans (hb.mono (by omega)))
      by_cases hz : n.l.length = 0
      · have hp0 : ((n.l.length : Int) == 0) = true := by rw [beq_iff_eq]; omega
        clear hseq hb HG HR
        generalize hL : n.l.length = L at *
        clear hL
        go_wp2
        go_ret
        exact ⟨rfl, HE.out⟩
      · obtain ⟨x, hx⟩ : ∃ x, n.l[n.l.length - 1]? = some x := ⟨_, List.getElem?_eq_getElem (by omega)⟩
        have hlast := HG.out.2.1.last x (by rw [List.getLast?_eq_getElem?]; exact hx)
        obtain ⟨g2, f2, rfl, hg2, _, _, s2⟩ := row_at HR.out hx
        replace s2 := (HE.out.cell (p := ⟨g2, _, none⟩) hg2).trans s2
        have hxb : (x.c == -2) = false := by rw [beq_eq_false_iff_ne]; exact hlast
        have hxb2 : (x.c != -2) = true := by rw [bne, hxb]; rfl
        have hp : 0 < n.l.length := by omega
        have hp0 : ((n.l.length : Int) == 0) = false := by rw [beq_eq_false_iff_ne]; omega
        clear hseq hb hx hlast hz hjl hj HG HR
        generalize x.c = xc at *
        generalize hL : n.l.length = L at *
        clear hL
        go_wp2
        go_ret
        exact ⟨rfl, HE.out⟩
end Ne
end Go.Proofs.Ytllmddhahpegmaa
namespace Go.Proofs.Ytllmddhahpegmaa
open Go.RowKit
namespace Ne

theorem countOf_none {k : Int} {l : List Item} (h : ∀ x ∈ l, x.c ≠ k) : countOf k l = 0 := by
  unfold countOf
  rw [List.length_eq_zero_iff, List.filter_eq_nil_iff]
  intro x hx
  simpa using h x hx

theorem countOf_one {k : Int} (hk : 0 ≤ k) {l : List Item} (hu : l.Pairwise (fun x y => 0 ≤ x.c → x.c ≠ y.c)) (hx : ∃ x ∈ l, x.c = k) : countOf k l = 1 := by
  induction l with
  | nil => obtain ⟨x, hx, _⟩ := hx; cases hx
  | cons y l ih =>
    obtain ⟨h1, h2⟩ := List.pairwise_cons.1 hu
    by_cases e : y.c = k
    · have h0 : countOf k l = 0 := countOf_none fun x hx => by have := h1 x hx (by omega); omega
      unfold countOf at h0 ⊢
      rw [List.filter_cons_of_pos (by simpa using e)]
      simp [h0]
    · have := ih h2 (by
        obtain ⟨x, hx, hxc⟩ := hx
        rcases List.mem_cons.1 hx with rfl | hx
        · exact absurd hxc e
        · exact ⟨x, hx, hxc⟩)
      unfold countOf at this ⊢
      rw [List.filter_cons_of_neg (by simpa using e)]
      exact this

theorem Good.not_self {M : Tr} (h : Good M) {i : Nat} {n : Node} (hi : M[i]? = some (some n)) : n.p ≠ i := by
  intro e
  obtain ⟨d, D, hr⟩ := h.ranked
  have := h.parent_rank hr hi e
  omega

set_option maxRecDepth 100000 in
set_option maxHeartbeats 2000000 in
theorem wrong_ok (K : Nat → Prop) (w : World) (A : Option Addr) (c : Nat) (M : Tr) (i : Nat) (h : StK K w A c (save M)) (hg : Good M) (hi : i < M.length) :
    Calls Try.prog 31 #[.agg #[.slice A M.length c], .int .i64 i] w fun e w' => e = .returned (.bool false) ∧ Below w.heap.size w w' := by
  obtain ⟨hc1, hc2⟩ := st_len h
  have hm := hg.len
  obtain ⟨o, ho⟩ : ∃ o, M[i]? = some o := ⟨_, List.getElem?_eq_getElem hi⟩
  obtain ⟨g, f, B, cB, rfl, hgl, p0, p1, p2, p3, p4, hR⟩ := st_at h ho
  have hb0 := below_box w (.cells #[.slice (some ⟨g, f, none⟩) M.length c] 28)
  replace p0 := (hb0.cell (p := ⟨g, _, none⟩) hgl).trans p0
  replace p1 := (hb0.cell (p := ⟨g, _, none⟩) hgl).trans p1
  replace p2 := (hb0.cell (p := ⟨g, _, none⟩) hgl).trans p2
  replace p3 := (hb0.cell (p := ⟨g, _, none⟩) hgl).trans p3
  replace p4 := (hb0.cell (p := ⟨g, _, none⟩) hgl).trans p4
  cases o with
  | none =>
    replace p0 : (w.alloc (.cells #[.slice (some ⟨g, f, none⟩) M.length c] 28)).cell? ⟨g, f + i * 5, none⟩ = some (.int .i64 (-1)) := p0
    replace p1 : (w.alloc (.cells #[.slice (some ⟨g, f, none⟩) M.length c] 28)).cell? ⟨g, f + i * 5 + 1, none⟩ = some (.int .i64 0) := p1
    replace p2 : (w.alloc (.cells #[.slice (some ⟨g, f, none⟩) M.length c] 28)).cell? ⟨g, f + i * 5 + 2, none⟩ = some (.int .i64 0) := p2
    replace p3 : (w.alloc (.cells #[.slice (some ⟨g, f, none⟩) M.length c] 28)).cell? ⟨g, f + i * 5 + 3, none⟩ = some (.slice B 0 cB) := p3
    replace p4 : (w.alloc (.cells #[.slice (some ⟨g, f, none⟩) M.length c] 28)).cell? ⟨g, f + i * 5 + 4, none⟩ = some (.bool true) := p4
    have h0 : i ≠ 0 := by
      intro e
      obtain ⟨r, hr, _⟩ := hg.root
      rw [e, hr] at ho
      cases ho
    have hlast : i + 1 ≠ M.length := by
      intro e
      have := hg.last
      rw [List.getLast?_eq_getElem?, ← e, show i + 1 - 1 = i by omega, ho] at this
      exact this rfl
    have e1 : ((i : Int) == 0) = false := by rw [beq_eq_false_iff_ne]; omega
    have e2 : ((i : Int) == (M.length : Int) - 1) = false := by rw [beq_eq_false_iff_ne]; omega
    have hml : 1 ≤ M.length := by omega
    have hb2 := Lib.hid (hb0.trans ((below_box (w.alloc (.cells #[.slice (some ⟨g, f, none⟩) M.length c] 28)) (.cells #[.int .i64 (-1), .int .i64 0, .int .i64 0, .slice B 0 cB, .bool true] 35)).mono hb0.size))
    have nb := World.new_ne _ _ p0
    clear h hg ho hR hb0
    have d2 : ((w.alloc (.cells #[.slice (some ⟨g, f, none⟩) M.length c] 28)).alloc (.cells #[.int .i64 (-1), .int .i64 0, .int .i64 0, .slice B 0 cB, .bool true] 35)).cell? ⟨w.heap.size, 0, none⟩ = some (.slice (some ⟨g, f, none⟩) M.length c) := by
      rw [World.cell?_alloc_lt _ _ _ (by simp), World.cell?_alloc_at _ _ _ _ rfl]; rfl
    go_enter Try.func31, Try.ntmps31
    go_wp2
    go_ret
    exact ⟨rfl, hb2.out⟩
  | some n =>
    replace p0 : (w.alloc (.cells #[.slice (some ⟨g, f, none⟩) M.length c] 28)).cell? ⟨g, f + i * 5, none⟩ = some (.int .i64 n.p) := p0
    replace p1 : (w.alloc (.cells #[.slice (some ⟨g, f, none⟩) M.length c] 28)).cell? ⟨g, f + i * 5 + 1, none⟩ = some (.int .i64 n.a) := p1
    replace p2 : (w.alloc (.cells #[.slice (some ⟨g, f, none⟩) M.length c] 28)).cell? ⟨g, f + i * 5 + 2, none⟩ = some (.int .i64 n.s) := p2
    replace p3 : (w.alloc (.cells #[.slice (some ⟨g, f, none⟩) M.length c] 28)).cell? ⟨g, f + i * 5 + 3, none⟩ = some (.slice B n.l.length cB) := p3
    replace p4 : (w.alloc (.cells #[.slice (some ⟨g, f, none⟩) M.length c] 28)).cell? ⟨g, f + i * 5 + 4, none⟩ = some (.bool false) := p4
    have hok := hg.node i n ho
    have ha0 := hok.a0
    have hs1 := hok.s1
    have htop := hok.top
    have hb2 := hb0.trans ((below_box (w.alloc (.cells #[.slice (some ⟨g, f, none⟩) M.length c] 28)) (.cells #[.int .i64 n.p, .int .i64 n.a, .int .i64 n.s, .slice B n.l.length cB, .bool false] 35)).mono hb0.size)
    have d2 : ((w.alloc (.cells #[.slice (some ⟨g, f, none⟩) M.length c] 28)).alloc (.cells #[.int .i64 n.p, .int .i64 n.a, .int .i64 n.s, .slice B n.l.length cB, .bool false] 35)).cell? ⟨w.heap.size, 0, none⟩ = some (.slice (some ⟨g, f, none⟩) M.length c) := by
      rw [World.cell?_alloc_lt _ _ _ (by simp), World.cell?_alloc_at _ _ _ _ rfl]; rfl
    have d5 : ∀ o v, (#[.int .i64 n.p, .int .i64 n.a, .int .i64 n.s, .slice B n.l.length cB, .bool false] : Array Value)[o]? = some v → ((w.alloc (.cells #[.slice (some ⟨g, f, none⟩) M.length c] 28)).alloc (.cells #[.int .i64 n.p, .int .i64 n.a, .int .i64 n.s, .slice B n.l.length cB, .bool false] 35)).cell? ⟨w.heap.size + 1, o, none⟩ = some v := by
      intro o v hv
      rw [World.cell?_alloc_at _ _ _ _ (by simp)]; exact hv
    have hS2 := h.below hb2
    by_cases h0 : i = 0
    · subst h0
      have hpm := hok.root rfl
      obtain ⟨r, hr, hra⟩ := hg.root
      rw [ho] at hr
      injection hr with hr; injection hr with hr
      subst hr
      have hIt := items_ok K _ (some ⟨g, f, none⟩) c M 0 n hS2 hg ho
      simp only [Int.ofNat_zero, Nat.zero_mul, Nat.add_zero, Int.natCast_zero] at hIt p0 p1 p2 p3 p4 ⊢
      have hIt := Lib.hid hIt
      have HB := Lib.hid hb2
      clear h hg ho hR hb0 hok d5 hb2 hS2
      obtain ⟨np, na, ns, nl⟩ := n
      obtain rfl : np = -1 := hpm
      obtain rfl : na = 0 := hra
      dsimp only at *
      go_enter Try.func31, Try.ntmps31
      go_wp2_with (go_at_call 51; refine hIt.out.mono ?_; rintro e w3 ⟨rfl, hb3⟩; have HB3 := Lib.hid hb3; clear hb3)
      go_ret
      exact ⟨rfl, HB.out.trans (HB3.out.mono HB.out.size)⟩
    · obtain ⟨hp0, q, hq, hqx⟩ := hok.par h0
      have hns := hg.not_self ho
      obtain ⟨pp, hpp⟩ := Int.eq_ofNat_of_zero_le hp0
      rw [hpp] at hns p0 d2 d5 hb2 hS2 hq
      rw [Int.toNat_natCast] at hq
      have hcnt := countOf_one (k := (i : Int)) (by omega) (hg.node _ _ hq).uniq hqx
      have hOp := open_yes K _ (some ⟨g, f, none⟩) c M pp q hS2 (find_of (by omega) (by rw [Int.toNat_natCast]; exact hq))
      have hTm := fun w3 (hb3 : Below ((w.alloc (.cells #[.slice (some ⟨g, f, none⟩) M.length c] 28)).alloc (.cells #[.int .i64 pp, .int .i64 n.a, .int .i64 n.s, .slice B n.l.length cB, .bool false] 35)).heap.size ((w.alloc (.cells #[.slice (some ⟨g, f, none⟩) M.length c] 28)).alloc (.cells #[.int .i64 pp, .int .i64 n.a, .int .i64 n.s, .slice B n.l.length cB, .bool false] 35)) w3) => times_ok K w3 (some ⟨g, f, none⟩) c M pp q i (hS2.below hb3) hq (hg.node _ _ hq).len
      have hIt := fun w3 (hb3 : Below ((w.alloc (.cells #[.slice (some ⟨g, f, none⟩) M.length c] 28)).alloc (.cells #[.int .i64 pp, .int .i64 n.a, .int .i64 n.s, .slice B n.l.length cB, .bool false] 35)).heap.size ((w.alloc (.cells #[.slice (some ⟨g, f, none⟩) M.length c] 28)).alloc (.cells #[.int .i64 pp, .int .i64 n.a, .int .i64 n.s, .slice B n.l.length cB, .bool false] 35)) w3) => items_ok K w3 (some ⟨g, f, none⟩) c M i n (hS2.below hb3) hg ho
      rw [hcnt] at hTm
      have d50 := d5 0 _ rfl
      have d51 := d5 1 _ rfl
      have d52 := d5 2 _ rfl
      have d54 := d5 4 _ rfl
      have hsz : ((w.alloc (.cells #[.slice (some ⟨g, f, none⟩) M.length c] 28)).alloc (.cells #[.int .i64 pp, .int .i64 n.a, .int .i64 n.s, .slice B n.l.length cB, .bool false] 35)).heap.size = w.heap.size + 2 := by simp
      have e1 : ((i : Int) == 0) = false := by rw [beq_eq_false_iff_ne]; omega
      have e2 : ((pp : Int) == (i : Int)) = false := by rw [beq_eq_false_iff_ne]; exact hns
      have HC := Lib.hid (And.intro hOp (And.intro hTm (And.intro hIt (And.intro hb2 (And.intro d2 (And.intro d50 hsz))))))
      clear h hg ho hR hb0 hok d5 hb2 hS2 hq hqx hcnt hOp hTm hIt hp0 hpp hns d2 d50 hsz
      go_enter Try.func31, Try.ntmps31
      have d2 := HC.out.2.2.2.2.1
      have d50 := HC.out.2.2.2.2.2.1
      go_wp2_with (go_at_call 52; fail)
      refine HC.out.1.mono ?_
      rintro e w3 ⟨rfl, hb3⟩
      have f2 := (hb3.cell (p := ⟨w.heap.size, _, none⟩) (by have := HC.out.2.2.2.2.2.2; show w.heap.size < _; omega)).trans d2
      have f0 := (hb3.cell (p := ⟨w.heap.size + 1, _, none⟩) (by have := HC.out.2.2.2.2.2.2; show w.heap.size + 1 < _; omega)).trans d50
      have HB3 := Lib.hid hb3
      clear hb3
      go_wp2_with (go_at_call 53; fail)
      refine (HC.out.2.1 _ HB3.out).mono ?_
      rintro e w4 ⟨rfl, hb4⟩
      have hb34 := HB3.out.trans (hb4.mono HB3.out.size)
      have f2 := (hb34.cell (p := ⟨w.heap.size, _, none⟩) (by have := HC.out.2.2.2.2.2.2; show w.heap.size < _; omega)).trans d2
      have HB4 := Lib.hid hb34
      clear hb34 hb4
      go_wp2_with (go_at_call 51; fail)
      refine (HC.out.2.2.1 _ HB4.out).mono ?_
      rintro e w5 ⟨rfl, hb5⟩
      have HB5 := Lib.hid hb5
      clear hb5
      go_wp2
      go_ret
      have b3 := HC.out.2.2.2.1
      exact ⟨rfl, b3.trans ((HB4.out.trans (HB5.out.mono HB4.out.size)).mono b3.size)⟩
end Ne
end Go.Proofs.Ytllmddhahpegmaa
namespace Go.Proofs.Ytllmddhahpegmaa
open Go.RowKit
namespace Ne

set_option maxRecDepth 100000 in
set_option maxHeartbeats 2000000 in
theorem check_ok (K : Nat → Prop) (w : World) (A : Option Addr) (c : Nat) (M : Tr) (h : StK K w A c (save M)) (hg : Good M) :
    Calls Try.prog 12 #[.agg #[.slice A M.length c]] w fun e w' => e = .returned (.tuple #[.int .i64 0, .int .i64 0]) ∧ Below w.heap.size w w' := by
  obtain ⟨hc1, hc2⟩ := st_len h
  have hm := hg.len
  have hp := hg.pos
  have hb0 := below_box w (.cells #[.slice A M.length c] 28)
  have b1 : (w.alloc (.cells #[.slice A M.length c] 28)).cell? ⟨w.heap.size, 0, none⟩ = some (.slice A M.length c) := by rw [World.cell?_alloc_at _ _ _ _ rfl]; rfl
  have hsz : (w.alloc (.cells #[.slice A M.length c] 28)).heap.size = w.heap.size + 1 := by simp
  have H := Lib.hid (And.intro h (And.intro hg hb0))
  have e0 : ((M.length : Int) == 0) = false := by rw [beq_eq_false_iff_ne]; omega
  clear h hg hb0
  go_enter Try.func12, Try.ntmps12
  go_wp2_with fail
  generalize (w.alloc (.cells #[.slice A M.length c] 28)) = W1 at *
  go_loopw [4] (fun i wr => ∃ j : Nat, j ≤ M.length ∧ i = .int .i64 j ∧ Below W1.heap.size W1 wr) (fun i _ => M.length - (intOf i).toNat)
  case atStart => exact ⟨0, Nat.zero_le _, rfl, Below.refl _ _⟩
  case round =>
    obtain ⟨j, hj, rfl, hb⟩ := hrel
    have b1' := (hb.cell (p := ⟨w.heap.size, _, none⟩) (show w.heap.size < W1.heap.size by omega)).trans b1
    have HB := Lib.hid hb
    have hbs := hb.size
    clear hb
    by_cases hjl : j < M.length
    · have hW := Lib.hid (wrong_ok K wr A c M j (H.out.1.below (H.out.2.2.trans (HB.out.mono H.out.2.2.size))) H.out.2.1 hjl)
      go_wp2_with (go_at_call 31; refine hW.out.mono ?_; rintro e w3 ⟨rfl, hb3⟩; have HB3 := Lib.hid hb3; clear hb3)
      go_roundw
      case rel => exact ⟨j + 1, by omega, by go_num, HB.out.trans (HB3.out.mono hbs)⟩
      case measure => simp [intOf]; omega
    · obtain rfl : j = M.length := by omega
      go_wp2_with fail
      go_loopw [5] (fun i wr' => ∃ j : Nat, j ≤ M.length ∧ i = .int .i64 j ∧ Below W1.heap.size W1 wr') (fun i _ => M.length - (intOf i).toNat)
      case atStart => exact ⟨0, Nat.zero_le _, rfl, HB.out⟩
      case round =>
        obtain ⟨j, hj, rfl, hb⟩ := hrel
        have b1'' := (hb.cell (p := ⟨w.heap.size, _, none⟩) (show w.heap.size < W1.heap.size by omega)).trans b1
        have HB := Lib.hid hb
        have hbs := hb.size
        clear hb
        by_cases hjl : j < M.length
        · obtain ⟨o, ho⟩ : ∃ o, M[j]? = some o := ⟨_, List.getElem?_eq_getElem hjl⟩
          have hbz := H.out.2.2.trans (HB.out.mono H.out.2.2.size)
          obtain ⟨g, f, B, cB, rfl, hgl, _, _, _, _, p4, _⟩ := st_at H.out.1 ho
          replace p4 := (hbz.cell (p := ⟨g, _, none⟩) hgl).trans p4
          cases o with
          | none =>
            replace p4 : wr.cell? ⟨g, f + j * 5 + 4, none⟩ = some (.bool true) := p4
            clear ho hbz
            go_wp2
            go_roundw
            case rel => exact ⟨j + 1, by omega, by go_num, HB.out⟩
            case measure => simp [intOf]; omega
          | some n =>
            replace p4 : wr.cell? ⟨g, f + j * 5 + 4, none⟩ = some (.bool false) := p4
            have hR := Lib.hid (rooted_ok K wr (some ⟨g, f, none⟩) c M j (H.out.1.below hbz) H.out.2.1 ⟨n, ho⟩)
            clear ho hbz
            go_wp2_with (go_at_call 32; refine hR.out.mono ?_; rintro e w3 ⟨rfl, hb3⟩; have HB3 := Lib.hid hb3; clear hb3)
            go_roundw
            case rel => exact ⟨j + 1, by omega, by go_num, HB.out.trans (HB3.out.mono hbs)⟩
            case measure => simp [intOf]; omega
        · obtain rfl : j = M.length := by omega
          go_wp2
          go_ret2
          exact ⟨rfl, H.out.2.2.trans (HB.out.mono H.out.2.2.size)⟩
end Ne
end Go.Proofs.Ytllmddhahpegmaa
