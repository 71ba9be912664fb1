/- The reference: wrong, Check. -/
import Derived.Test.YtllmddhahpegmaaBC
namespace Go.Proofs.Ytllmddhahpegmaa
open Go.RowKit
namespace Ne

theorem countOf_none {k : Int} {l : List Item} (h : ∀ x ∈ l, x.c ≠ k) : countOf k l = 0 := by
  unfold countOf
  rw [List.length_eq_zero_iff, List.filter_eq_nil_iff]
  intro x hx
  simpa using h x hx

theorem countOf_one {k : Int} (hk : 0 ≤ k) {l : List Item} (hu : l.Pairwise (fun x y => 0 ≤ x.c → x.c ≠ y.c)) (hx : ∃ x ∈ l, x.c = k) : countOf k l = 1 := by
  induction l with
  | nil => obtain ⟨x, hx, _⟩ := hx; cases hx
  | cons y l ih =>
    obtain ⟨h1, h2⟩ := List.pairwise_cons.1 hu
    by_cases e : y.c = k
    · have h0 : countOf k l = 0 := countOf_none fun x hx => by have := h1 x hx (by omega); omega
      unfold countOf at h0 ⊢
      rw [List.filter_cons_of_pos (by simpa using e)]
      simp [h0]
    · have := ih h2 (by
        obtain ⟨x, hx, hxc⟩ := hx
        rcases List.mem_cons.1 hx with rfl | hx
        · exact absurd hxc e
        · exact ⟨x, hx, hxc⟩)
      unfold countOf at this ⊢
      rw [List.filter_cons_of_neg (by simpa using e)]
      exact this

theorem Good.not_self {M : Tr} (h : Good M) {i : Nat} {n : Node} (hi : M[i]? = some (some n)) : n.p ≠ i := by
  intro e
  obtain ⟨d, D, hr⟩ := h.ranked
  have := h.parent_rank hr hi e
  omega

set_option maxRecDepth 100000 in
set_option maxHeartbeats 2000000 in
theorem wrong_ok (K : Nat → Prop) (w : World) (A : Option Addr) (c : Nat) (M : Tr) (i : Nat) (h : StK K w A c (save M)) (hg : Good M) (hi : i < M.length) :
    Calls Try.prog 31 #[.agg #[.slice A M.length c], .int .i64 i] w fun e w' => e = .returned (.bool false) ∧ Below w.heap.size w w' := by
  obtain ⟨hc1, hc2⟩ := st_len h
  have hm := hg.len
  obtain ⟨o, ho⟩ : ∃ o, M[i]? = some o := ⟨_, List.getElem?_eq_getElem hi⟩
  obtain ⟨g, f, B, cB, rfl, hgl, p0, p1, p2, p3, p4, hR⟩ := st_at h ho
  have hb0 := below_box w (.cells #[.slice (some ⟨g, f, none⟩) M.length c] 28)
  replace p0 := (hb0.cell (p := ⟨g, _, none⟩) hgl).trans p0
  replace p1 := (hb0.cell (p := ⟨g, _, none⟩) hgl).trans p1
  replace p2 := (hb0.cell (p := ⟨g, _, none⟩) hgl).trans p2
  replace p3 := (hb0.cell (p := ⟨g, _, none⟩) hgl).trans p3
  replace p4 := (hb0.cell (p := ⟨g, _, none⟩) hgl).trans p4
  cases o with
  | none =>
    replace p0 : (w.alloc (.cells #[.slice (some ⟨g, f, none⟩) M.length c] 28)).cell? ⟨g, f + i * 5, none⟩ = some (.int .i64 (-1)) := p0
    replace p1 : (w.alloc (.cells #[.slice (some ⟨g, f, none⟩) M.length c] 28)).cell? ⟨g, f + i * 5 + 1, none⟩ = some (.int .i64 0) := p1
    replace p2 : (w.alloc (.cells #[.slice (some ⟨g, f, none⟩) M.length c] 28)).cell? ⟨g, f + i * 5 + 2, none⟩ = some (.int .i64 0) := p2
    replace p3 : (w.alloc (.cells #[.slice (some ⟨g, f, none⟩) M.length c] 28)).cell? ⟨g, f + i * 5 + 3, none⟩ = some (.slice B 0 cB) := p3
    replace p4 : (w.alloc (.cells #[.slice (some ⟨g, f, none⟩) M.length c] 28)).cell? ⟨g, f + i * 5 + 4, none⟩ = some (.bool true) := p4
    have h0 : i ≠ 0 := by
      intro e
      obtain ⟨r, hr, _⟩ := hg.root
      rw [e, hr] at ho
      cases ho
    have hlast : i + 1 ≠ M.length := by
      intro e
      have := hg.last
      rw [List.getLast?_eq_getElem?, ← e, show i + 1 - 1 = i by omega, ho] at this
      exact this rfl
    have e1 : ((i : Int) == 0) = false := by rw [beq_eq_false_iff_ne]; omega
    have e2 : ((i : Int) == (M.length : Int) - 1) = false := by rw [beq_eq_false_iff_ne]; omega
    have hml : 1 ≤ M.length := by omega
    have hb2 := Lib.hid (hb0.trans ((below_box (w.alloc (.cells #[.slice (some ⟨g, f, none⟩) M.length c] 28)) (.cells #[.int .i64 (-1), .int .i64 0, .int .i64 0, .slice B 0 cB, .bool true] 35)).mono hb0.size))
    have nb := World.new_ne _ _ p0
    clear h hg ho hR hb0
    have d2 : ((w.alloc (.cells #[.slice (some ⟨g, f, none⟩) M.length c] 28)).alloc (.cells #[.int .i64 (-1), .int .i64 0, .int .i64 0, .slice B 0 cB, .bool true] 35)).cell? ⟨w.heap.size, 0, none⟩ = some (.slice (some ⟨g, f, none⟩) M.length c) := by
      rw [World.cell?_alloc_lt _ _ _ (by simp), World.cell?_alloc_at _ _ _ _ rfl]; rfl
    go_enter Try.func31, Try.ntmps31
    go_wp2
    go_ret
    exact ⟨rfl, hb2.out⟩
  | some n =>
    replace p0 : (w.alloc (.cells #[.slice (some ⟨g, f, none⟩) M.length c] 28)).cell? ⟨g, f + i * 5, none⟩ = some (.int .i64 n.p) := p0
    replace p1 : (w.alloc (.cells #[.slice (some ⟨g, f, none⟩) M.length c] 28)).cell? ⟨g, f + i * 5 + 1, none⟩ = some (.int .i64 n.a) := p1
    replace p2 : (w.alloc (.cells #[.slice (some ⟨g, f, none⟩) M.length c] 28)).cell? ⟨g, f + i * 5 + 2, none⟩ = some (.int .i64 n.s) := p2
    replace p3 : (w.alloc (.cells #[.slice (some ⟨g, f, none⟩) M.length c] 28)).cell? ⟨g, f + i * 5 + 3, none⟩ = some (.slice B n.l.length cB) := p3
    replace p4 : (w.alloc (.cells #[.slice (some ⟨g, f, none⟩) M.length c] 28)).cell? ⟨g, f + i * 5 + 4, none⟩ = some (.bool false) := p4
    have hok := hg.node i n ho
    have ha0 := hok.a0
    have hs1 := hok.s1
    have htop := hok.top
    have hb2 := hb0.trans ((below_box (w.alloc (.cells #[.slice (some ⟨g, f, none⟩) M.length c] 28)) (.cells #[.int .i64 n.p, .int .i64 n.a, .int .i64 n.s, .slice B n.l.length cB, .bool false] 35)).mono hb0.size)
    have d2 : ((w.alloc (.cells #[.slice (some ⟨g, f, none⟩) M.length c] 28)).alloc (.cells #[.int .i64 n.p, .int .i64 n.a, .int .i64 n.s, .slice B n.l.length cB, .bool false] 35)).cell? ⟨w.heap.size, 0, none⟩ = some (.slice (some ⟨g, f, none⟩) M.length c) := by
      rw [World.cell?_alloc_lt _ _ _ (by simp), World.cell?_alloc_at _ _ _ _ rfl]; rfl
    have d5 : ∀ o v, (#[.int .i64 n.p, .int .i64 n.a, .int .i64 n.s, .slice B n.l.length cB, .bool false] : Array Value)[o]? = some v → ((w.alloc (.cells #[.slice (some ⟨g, f, none⟩) M.length c] 28)).alloc (.cells #[.int .i64 n.p, .int .i64 n.a, .int .i64 n.s, .slice B n.l.length cB, .bool false] 35)).cell? ⟨w.heap.size + 1, o, none⟩ = some v := by
      intro o v hv
      rw [World.cell?_alloc_at _ _ _ _ (by simp)]; exact hv
    have hS2 := h.below hb2
    by_cases h0 : i = 0
    · subst h0
      have hpm := hok.root rfl
      obtain ⟨r, hr, hra⟩ := hg.root
      rw [ho] at hr
      injection hr with hr; injection hr with hr
      subst hr
      have hIt := items_ok K _ (some ⟨g, f, none⟩) c M 0 n hS2 hg ho
      simp only [Int.ofNat_zero, Nat.zero_mul, Nat.add_zero, Int.natCast_zero] at hIt p0 p1 p2 p3 p4 ⊢
      have hIt := Lib.hid hIt
      have HB := Lib.hid hb2
      clear h hg ho hR hb0 hok d5 hb2 hS2
      obtain ⟨np, na, ns, nl⟩ := n
      obtain rfl : np = -1 := hpm
      obtain rfl : na = 0 := hra
      dsimp only at *
      go_enter Try.func31, Try.ntmps31
      go_wp2_with (go_at_call 51; refine hIt.out.mono ?_; rintro e w3 ⟨rfl, hb3⟩; have HB3 := Lib.hid hb3; clear hb3)
      go_ret
      exact ⟨rfl, HB.out.trans (HB3.out.mono HB.out.size)⟩
    · obtain ⟨hp0, q, hq, hqx⟩ := hok.par h0
      have hns := hg.not_self ho
      obtain ⟨pp, hpp⟩ := Int.eq_ofNat_of_zero_le hp0
      rw [hpp] at hns p0 d2 d5 hb2 hS2 hq
      rw [Int.toNat_natCast] at hq
      have hcnt := countOf_one (k := (i : Int)) (by omega) (hg.node _ _ hq).uniq hqx
      have hOp := open_yes K _ (some ⟨g, f, none⟩) c M pp q hS2 (find_of (by omega) (by rw [Int.toNat_natCast]; exact hq))
      have hTm := fun w3 (hb3 : Below ((w.alloc (.cells #[.slice (some ⟨g, f, none⟩) M.length c] 28)).alloc (.cells #[.int .i64 pp, .int .i64 n.a, .int .i64 n.s, .slice B n.l.length cB, .bool false] 35)).heap.size ((w.alloc (.cells #[.slice (some ⟨g, f, none⟩) M.length c] 28)).alloc (.cells #[.int .i64 pp, .int .i64 n.a, .int .i64 n.s, .slice B n.l.length cB, .bool false] 35)) w3) => times_ok K w3 (some ⟨g, f, none⟩) c M pp q i (hS2.below hb3) hq (hg.node _ _ hq).len
      have hIt := fun w3 (hb3 : Below ((w.alloc (.cells #[.slice (some ⟨g, f, none⟩) M.length c] 28)).alloc (.cells #[.int .i64 pp, .int .i64 n.a, .int .i64 n.s, .slice B n.l.length cB, .bool false] 35)).heap.size ((w.alloc (.cells #[.slice (some ⟨g, f, none⟩) M.length c] 28)).alloc (.cells #[.int .i64 pp, .int .i64 n.a, .int .i64 n.s, .slice B n.l.length cB, .bool false] 35)) w3) => items_ok K w3 (some ⟨g, f, none⟩) c M i n (hS2.below hb3) hg ho
      rw [hcnt] at hTm
      have d50 := d5 0 _ rfl
      have d51 := d5 1 _ rfl
      have d52 := d5 2 _ rfl
      have d54 := d5 4 _ rfl
      have hsz : ((w.alloc (.cells #[.slice (some ⟨g, f, none⟩) M.length c] 28)).alloc (.cells #[.int .i64 pp, .int .i64 n.a, .int .i64 n.s, .slice B n.l.length cB, .bool false] 35)).heap.size = w.heap.size + 2 := by simp
      have e1 : ((i : Int) == 0) = false := by rw [beq_eq_false_iff_ne]; omega
      have e2 : ((pp : Int) == (i : Int)) = false := by rw [beq_eq_false_iff_ne]; exact hns
      have HC := Lib.hid (And.intro hOp (And.intro hTm (And.intro hIt (And.intro hb2 (And.intro d2 (And.intro d50 hsz))))))
      clear h hg ho hR hb0 hok d5 hb2 hS2 hq hqx hcnt hOp hTm hIt hp0 hpp hns d2 d50 hsz
      go_enter Try.func31, Try.ntmps31
      have d2 := HC.out.2.2.2.2.1
      have d50 := HC.out.2.2.2.2.2.1
      go_wp2_with (go_at_call 52; fail)
      refine HC.out.1.mono ?_
      rintro e w3 ⟨rfl, hb3⟩
      have f2 := (hb3.cell (p := ⟨w.heap.size, _, none⟩) (by have := HC.out.2.2.2.2.2.2; show w.heap.size < _; omega)).trans d2
      have f0 := (hb3.cell (p := ⟨w.heap.size + 1, _, none⟩) (by have := HC.out.2.2.2.2.2.2; show w.heap.size + 1 < _; omega)).trans d50
      have HB3 := Lib.hid hb3
      clear hb3
      go_wp2_with (go_at_call 53; fail)
      refine (HC.out.2.1 _ HB3.out).mono ?_
      rintro e w4 ⟨rfl, hb4⟩
      have hb34 := HB3.out.trans (hb4.mono HB3.out.size)
      have f2 := (hb34.cell (p := ⟨w.heap.size, _, none⟩) (by have := HC.out.2.2.2.2.2.2; show w.heap.size < _; omega)).trans d2
      have HB4 := Lib.hid hb34
      clear hb34 hb4
      go_wp2_with (go_at_call 51; fail)
      refine (HC.out.2.2.1 _ HB4.out).mono ?_
      rintro e w5 ⟨rfl, hb5⟩
      have HB5 := Lib.hid hb5
      clear hb5
      go_wp2
      go_ret
      have b3 := HC.out.2.2.2.1
      exact ⟨rfl, b3.trans ((HB4.out.trans (HB5.out.mono HB4.out.size)).mono b3.size)⟩
end Ne
end Go.Proofs.Ytllmddhahpegmaa
