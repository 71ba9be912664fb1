/- The reference: rooted, Chain. The reference: Mark, End, Room. The reference: Inside, Below. -/
import Derived.Test.YtllmddhahpegmaaM13
import Derived.Test.YtllmddhahpegmaaM12
import Derived.LoopTactic
namespace Go.Proofs.Ytllmddhahpegmaa
open Go.RowKit
namespace Ne

theorem Chn.lenM {M : Tr} (h : Good M) {c : Nat} {l : List Nat} (hc : Chn M c l) : l.length ≤ M.length := by
  obtain ⟨d, D, hr⟩ := h.ranked
  obtain ⟨h1, _⟩ := hc.ranks h hr
  refine pigeon _ l (h1.imp fun hab e => by subst e; omega) fun a ha => ?_
  obtain ⟨q, hq⟩ := anc_opn h ((hc.mem a).1 ha) hc.opn
  exact (List.getElem?_eq_some_iff.1 hq).1

/-- One step up. -/
theorem Chn.next {M : Tr} {c : Nat} {l : List Nat} (hc : Chn M c l) (hne : c ≠ 0) : ∃ n p l', M[c]? = some (some n) ∧ n.p = ((p : Nat) : Int) ∧ Chn M p l' ∧ l = c :: l' := by
  cases hc with
  | root _ _ _ => exact absurd rfl hne
  | step _ p n l' h1 h2 h3 => exact ⟨n, p, l', h1, h2, h3, rfl⟩

theorem Chn.zero {M : Tr} {l : List Nat} (hg : Good M) (hc : Chn M 0 l) : l = [0] := by
  cases hc with
  | root _ _ _ => rfl
  | step _ p n l' h1 h2 h3 =>
    have := (hg.node 0 n h1).root rfl
    omega

theorem st_cell {K : Nat → Prop} {w w' : World} {A : Option Addr} {c : Nat} {M : Tr} (h : StK K w A c (save M)) (hb : Below w.heap.size w w') {j : Nat} {n : Node} (hj : M[j]? = some (some n)) :
    ∃ g f, A = some ⟨g, f, none⟩ ∧ w'.cell? ⟨g, f + j * 5, none⟩ = some (.int .i64 n.p) := by
  obtain ⟨g, f, B, cB, rfl, hg, p0, _⟩ := st_at h hj
  exact ⟨g, f, rfl, (hb.cell (p := ⟨g, _, none⟩) hg).trans p0⟩

set_option maxHeartbeats 1000000 in
theorem rooted_ok (K : Nat → Prop) (w : World) (A : Option Addr) (c : Nat) (M : Tr) (i : Nat) (h : StK K w A c (save M)) (hg : Good M) (hi : Opn M i) :
    Calls Try.prog 32 #[.agg #[.slice A M.length c], .int .i64 i] w fun e w' => e = .returned (.bool true) ∧ Below w.heap.size w w' := by
  obtain ⟨hc1, hc2⟩ := st_len h
  obtain ⟨L, hL⟩ := hg.chn hi
  have hLM := hL.lenM hg
  have hm := hg.len
  have HS := Lib.hid (fun (j : Nat) (n : Node) (hj : M[j]? = some (some n)) => st_cell h (below_box w (.cells #[.slice A M.length c] 28)) hj)
  have HL := Lib.hid hL
  have HG := Lib.hid hg
  clear h hg hi hL
  go_enter Try.func32, Try.ntmps32
  go_wp2
  go_loop [1, 5] (fun nd k => ∃ (q j : Nat) (rest : List Nat), nd = .int .i64 q ∧ k = .int .i64 j ∧ Chn M q rest ∧ j + rest.length = L.length) (fun _ k => L.length - (intOf k).toNat)
  case atStart => exact ⟨i, 0, L, rfl, rfl, HL.out, by omega⟩
  case round =>
    obtain ⟨q, j, rest, rfl, rfl, hq, hjr⟩ := hrel
    by_cases hq0 : q = 0
    · subst hq0
      have hz := hq.zero HG.out
      have hrl : rest.length = 1 := by rw [hz]; rfl
      clear hq hz
      go_wp2
      go_ret
      exact ⟨rfl, below_box _ _⟩
    · obtain ⟨n, p, l', hn, hp, hl', rfl⟩ := hq.next hq0
      obtain ⟨g, f, rfl, r0⟩ := HS.out q n hn
      rw [hp] at r0
      have hl0 := List.length_pos_iff.2 hl'.ne
      have hlen : (q :: l').length = l'.length + 1 := rfl
      have hql := (List.getElem?_eq_some_iff.1 hn).1
      rw [hlen] at hjr
      have HP := Lib.hid hl'
      clear hq hn hp hl' hlen
      go_wp2
      go_round
      case rel => exact ⟨p, j + 1, l', rfl, by go_num, HP.out, by omega⟩
      case measure => simp [intOf]; omega

theorem owns_one (w : World) (v : Value) (t : TypeId) : (w.alloc (.cells #[v] t)).ownsRow w.heap.size t 1 (.slice (some ⟨w.heap.size, 0, none⟩) 1 1) 1 [v] :=
  ⟨rfl, .inr ⟨w.heap.size, 1, #[v], rfl, Nat.le_refl _, heap_alloc_new _ _, Nat.le_refl _, by unfold maxLen; omega, rfl, rfl⟩⟩

set_option maxRecDepth 100000 in
set_option maxHeartbeats 1000000 in
theorem chainR_ok (K : Nat → Prop) (w : World) (A : Option Addr) (c : Nat) (M : Tr) (i : Int) (h : StK K w A c (save M)) (hg : Good M) :
    Calls Try.prog 33 #[.agg #[.slice A M.length c], .int .i64 i] w fun e w' => ChainOf M i w.heap.size e w' ∧ Below w.heap.size w w' := by
  obtain ⟨hc1, hc2⟩ := st_len h
  have hbx := below_box w (.cells #[.slice A M.length c] 28)
  have hS1 := h.below hbx
  have hm := hg.len
  cases hf : find M i with
  | none =>
    have HO := Lib.hid (open_no K _ A c M i hS1 hf)
    have HB := Lib.hid (And.intro hbx hf)
    clear h hbx hS1 hf hg
    go_enter Try.func33, Try.ntmps33
    go_wp2_with (go_at_call 52; refine HO.out.mono ?_; rintro e w1 ⟨rfl, hb1⟩; have HB1 := Lib.hid hb1; clear hb1)
    go_ret2
    exact ⟨.inl ⟨HB.out.2, rfl⟩, HB.out.1.trans (HB1.out.mono HB.out.1.size)⟩
  | some n0 =>
    obtain ⟨h0, hi⟩ := find_some hf
    obtain ⟨k, rfl⟩ := Int.eq_ofNat_of_zero_le h0
    rw [Int.toNat_natCast] at hi
    obtain ⟨L, hL⟩ := hg.chn ⟨n0, hi⟩
    have hL64 := hL.len hg
    have HO := Lib.hid (open_yes K _ A c M k n0 hS1 hf)
    have HB := Lib.hid hbx
    have HS := Lib.hid hS1
    have HL := Lib.hid hL
    have HG := Lib.hid hg
    obtain ⟨i0, z0, hi0, hz0, hz1, hz2, hz3⟩ := info_open int_info
    have hs1 : (w.alloc (.cells #[.slice A M.length c] 28)).heap.size = w.heap.size + 1 := by simp
    have hbc : (w.alloc (.cells #[.slice A M.length c] 28)).cell? ⟨w.heap.size, 0, none⟩ = some (.slice A M.length c) := by rw [World.cell?_alloc_at _ _ _ _ rfl]; rfl
    clear h hbx hS1 hf hi hL hg h0
    go_enter Try.func33, Try.ntmps33
    go_wp2_with (go_at_call 52; refine HO.out.mono ?_; rintro e w1 ⟨rfl, hb1⟩; have HB1 := Lib.hid hb1; clear hb1)
    generalize (w.alloc (.cells #[.slice A M.length c] 28)) = W1 at *
    have hbs1 := HB1.out.size
    have hbc1 := (HB1.out.cell (p := ⟨w.heap.size, _, none⟩) (show w.heap.size < W1.heap.size by omega)).trans hbc
    go_loopw [1, 6] (fun nd out wr => ∃ (q : Nat) (l1 rest : List Nat) (A' : Option Addr) (c' : Nat), nd = .int .i64 q ∧ Chn M q rest ∧ L = l1 ++ rest ∧ out = .slice A' (l1.length + 1) c' ∧ wr.ownsRow W1.heap.size 3 1 out (l1.length + 1) (nints (l1 ++ [q])) ∧ Below W1.heap.size W1 wr) (fun _ out _ => L.length + 1 - lenOf out)
    case atStart =>
      refine ⟨k, [], L, some ⟨w1.heap.size, 0, none⟩, 1, rfl, HL.out, rfl, rfl, ?_, HB1.out.alloc hbs1 _⟩
      have := owns_one w1 (.int .i64 (k : Int)) 3
      exact ⟨this.1, by rcases this.2 with ⟨_, e⟩ | ⟨g, cap, cur, e1, e2, r⟩; (exact absurd e (by decide)); exact .inr ⟨g, cap, cur, e1, by omega, r⟩⟩
    case round =>
      obtain ⟨q, l1, rest, A', c', rfl, hq, hl, rfl, hrow, hb⟩ := hrel
      have hbs := hb.size
      have hbc := (hb.cell (p := ⟨w.heap.size, _, none⟩) (show w.heap.size < W1.heap.size by omega)).trans hbc
      have hLl : L.length = l1.length + rest.length := by rw [hl, List.length_append]
      by_cases hq0 : q = 0
      · subst hq0
        have hz := hq.zero HG.out
        have HE := Lib.hid (And.intro hl (And.intro hrow (And.intro hb hz)))
        clear hl hrow hb hq hz hLl
        go_wp2
        go_ret2
        have hl : L = l1 ++ [0] := by rw [HE.out.1, HE.out.2.2.2]
        have hll : L.length = l1.length + 1 := by rw [hl]; simp
        refine ⟨.inr ⟨A', c', L, by omega, by simpa using HL.out, ?_, ?_⟩, HB.out.trans (HE.out.2.2.1.mono HB.out.size)⟩
        · rw [hll]; rfl
        · rw [hll, hl]
          have := HE.out.2.1
          exact ⟨this.1, by rcases this.2 with e | ⟨g, cap, cur, e1, e2, r⟩; (exact .inl e); exact .inr ⟨g, cap, cur, e1, by omega, r⟩⟩
      · obtain ⟨n, p, l', hn, hp, hl', rfl⟩ := hq.next hq0
        obtain ⟨g, f, rfl, r0⟩ := st_cell HS.out hb hn
        rw [hp] at r0
        have hl0 := List.length_pos_iff.2 hl'.ne
        have hlen : (q :: l').length = l'.length + 1 := rfl
        have hql := (List.getElem?_eq_some_iff.1 hn).1
        rw [hlen] at hLl
        have hl1 : l1.length + 1 < 64 := by omega
        have HE := Lib.hid (And.intro hl (And.intro hrow (And.intro hb (And.intro hl' hLl))))
        clear hl hb hq hn hp hl' hlen hLl
        go_wp2_with (first |
          (at_builtin; refine wpList_append_lies _ rfl (.tmp 21) (.tmp 23) _ rfl W1.heap.size 3 i0 z0 1 8 Try.underlying36 hi0 hz0 hz1 hz2 hz3 (by omega) (.slice A' (l1.length + 1) c') (l1.length + 1) (nints (l1 ++ [q])) rfl (hrow.alloc _) ⟨wr.heap.size, 0, none⟩ 1 1 [.int .i64 (p : Int)] rfl rfl (World.news_of_block (heap_alloc_new _ _)) (by simp [Value.oneCell']) (by omega) (by unfold maxLen; omega) (by omega) (by simp; omega) (wr.heap.size + 1) (by simp) ?_
           intro gg capg wg hown1 hgrow1 hat1 hlt1
           have hbg : Below W1.heap.size W1 wg := (HE.out.2.2.1.alloc hbs _).grown hgrow1 (by simp; omega) (fun k hk => (HE.out.2.1.lt k hk).1)
           have HB2 := Lib.hid hbg
           clear hbg))
        go_roundw
        case rel =>
          refine ⟨p, l1 ++ [q], l', some ⟨gg, 0, none⟩, capg, rfl, HE.out.2.2.2.1, by simpa using HE.out.1, by simp, ?_, HB2.out⟩
          have : nints (l1 ++ [q] ++ [p]) = nints (l1 ++ [q]) ++ [.int .i64 (p : Int)] := by simp [nints]
          rw [this]; simpa using hown1
        case measure =>
          have := HE.out.2.2.2.2
          simp [lenOf]; omega
end Ne
end Go.Proofs.Ytllmddhahpegmaa
namespace Go.Proofs.Ytllmddhahpegmaa
open Go.RowKit
namespace Ne

set_option maxHeartbeats 1000000 in
theorem markR_ok (K : Nat → Prop) (w : World) (A : Option Addr) (c : Nat) (M : Tr) (i : Int) (h : StK K w A c (save M)) (hg : Good M) :
    Calls Try.prog 62 #[.agg #[.slice A M.length c], .int .i64 i] w fun e w' => e = .returned (.tuple #[.int .i64 (mark M i).1, .int .i64 (mark M i).2]) ∧ Below w.heap.size w w' := by
  obtain ⟨hc1, hc2⟩ := st_len h
  have hbx := below_box w (.cells #[.slice A M.length c] 28)
  have hS1 := h.below hbx
  cases hf : find M i with
  | none =>
    rw [show mark M i = (0, 4) by simp [mark, hf]]
    have HO := Lib.hid (open_no K _ A c M i hS1 hf)
    have HB := Lib.hid hbx
    clear h hbx hS1 hf hg
    go_enter Try.func62, Try.ntmps62
    go_wp2_with (go_at_call 52; refine HO.out.mono ?_; rintro e w1 ⟨rfl, hb1⟩; have HB1 := Lib.hid hb1; clear hb1)
    go_ret2
    exact ⟨rfl, HB.out.trans (HB1.out.mono HB.out.size)⟩
  | some n =>
    rw [show mark M i = (((n.l.length : Nat) : Int), 0) by simp [mark, hf]]
    obtain ⟨h0, hi⟩ := find_some hf
    obtain ⟨k, rfl⟩ := Int.eq_ofNat_of_zero_le h0
    rw [Int.toNat_natCast] at hi
    have hk := (List.getElem?_eq_some_iff.1 hi).1
    have hlen := (hg.node k n hi).len
    have HO := Lib.hid (open_yes K _ A c M k n hS1 hf)
    have HB := Lib.hid hbx
    obtain ⟨g, f, B, cB, rfl, hgl, _, _, _, p3, _, hR⟩ := st_at hS1 hi
    obtain ⟨hr1, hr2⟩ := row_len hR
    replace p3 : (w.alloc (.cells #[.slice (some ⟨g, f, none⟩) M.length c] 28)).cell? ⟨g, f + k * 5 + 3, none⟩ = some (.slice B n.l.length cB) := p3
    replace hr1 : n.l.length ≤ cB := hr1
    have hs1 : (w.alloc (.cells #[.slice (some ⟨g, f, none⟩) M.length c] 28)).heap.size = w.heap.size + 1 := by simp
    have hbc : (w.alloc (.cells #[.slice (some ⟨g, f, none⟩) M.length c] 28)).cell? ⟨w.heap.size, 0, none⟩ = some (.slice (some ⟨g, f, none⟩) M.length c) := by rw [World.cell?_alloc_at _ _ _ _ rfl]; rfl
    clear h hbx hS1 hf hi hg hR h0
    go_enter Try.func62, Try.ntmps62
    go_wp2_with (go_at_call 52; fail)
    generalize (w.alloc (.cells #[.slice (some ⟨g, f, none⟩) M.length c] 28)) = W1 at *
    refine HO.out.mono ?_
    rintro e w1 ⟨rfl, hb1⟩
    replace p3 := (hb1.cell (p := ⟨g, _, none⟩) hgl).trans p3
    replace hbc := (hb1.cell (p := ⟨w.heap.size, _, none⟩) (show w.heap.size < W1.heap.size by omega)).trans hbc
    have HB1 := Lib.hid hb1
    clear hb1
    go_wp2
    go_ret2
    exact ⟨rfl, HB.out.trans (HB1.out.mono HB.out.size)⟩

/-- The byte behind the last item. -/
def EndAt (w : World) (n : Node) (B : Option Addr) (cB : Nat) : Prop :=
  Calls Try.prog 70 #[.agg #[.int .i64 n.p, .int .i64 n.a, .int .i64 n.s, .slice B n.l.length cB, .bool false]] w fun e w' => e = .returned (.int .i64 n.fin) ∧ Below w.heap.size w w'

set_option maxHeartbeats 1000000 in
theorem endR_ok (K : Nat → Prop) (w : World) (n : Node) (B : Option Addr) (cB : Nat) (hR : RowK K w B cB n.l) (hs : Small n.l) (hl : n.l.length ≤ 200) : EndAt w n B cB := by
  unfold EndAt
  obtain ⟨hr1, hr2⟩ := row_len hR
  by_cases hn : n.l = []
  · have hf : n.fin = n.a := by simp [Node.fin, hn]
    have h0 : n.l.length = 0 := by rw [hn]; rfl
    rw [hf, h0]
    clear hR hs hf hl
    go_enter Try.func70, Try.ntmps70
    go_wp2
    go_ret
    exact ⟨rfl, below_box _ _⟩
  · have hp : 0 < n.l.length := List.length_pos_iff.2 hn
    obtain ⟨x, hx⟩ : ∃ x, n.l[n.l.length - 1]? = some x := ⟨_, List.getElem?_eq_getElem (by omega)⟩
    have hf : n.fin = x.a + x.s := by simp [Node.fin, List.getLast?_eq_getElem?, hx]
    obtain ⟨g, f, rfl, hg, h1, h2, h3⟩ := row_at hR hx
    obtain ⟨b1, b2, b3⟩ := hs x (List.mem_of_getElem? hx)
    have hL0 : n.l.length = n.l.length - 1 + 1 := by omega
    rw [hf]
    generalize n.l.length - 1 = L at *
    rw [hL0] at hr1 hl ⊢
    have hw := below_box w (.cells #[.int .i64 n.p, .int .i64 n.a, .int .i64 n.s, .slice (some ⟨g, f, none⟩) (L + 1) cB, .bool false] 35)
    replace h1 := (hw.cell (p := ⟨g, _, none⟩) hg).trans h1
    replace h2 := (hw.cell (p := ⟨g, _, none⟩) hg).trans h2
    replace h3 := (hw.cell (p := ⟨g, _, none⟩) hg).trans h3
    clear hR hs hf hx hn hw hL0
    go_enter Try.func70, Try.ntmps70
    go_wp2
    go_ret
    exact ⟨rfl, (below_box _ _).trans ((below_box _ _).mono (by simp))⟩
end Ne
end Go.Proofs.Ytllmddhahpegmaa
namespace Go.Proofs.Ytllmddhahpegmaa
open Go.RowKit
namespace Ne

def hasN (L : List Nat) (k : Int) : Bool := L.any fun a => (a : Int) == k
theorem hasN_cons (a : Nat) (L : List Nat) (k : Int) : hasN (a :: L) k = ((a : Int) == k || hasN L k) := rfl
theorem hasN_iff (L : List Nat) (k : Int) : hasN L k = true ↔ ∃ a ∈ L, (a : Int) = k := by simp [hasN]

set_option maxHeartbeats 1000000 in
theorem insideR_ok (K : Nat → Prop) (w : World) (A : Option Addr) (c : Nat) (M : Tr) (i : Nat) (L : List Nat) (k : Int) (h : StK K w A c (save M)) (hg : Good M) (hi : Chn M i L) :
    Calls Try.prog 72 #[.agg #[.slice A M.length c], .int .i64 i, .int .i64 k] w fun e w' => e = .returned (.bool (hasN L k)) ∧ Below w.heap.size w w' := by
  obtain ⟨hc1, hc2⟩ := st_len h
  obtain ⟨d, D, hr⟩ := hg.ranked
  have hm := hg.len
  have HS := Lib.hid (fun (j : Nat) (n : Node) (hj : M[j]? = some (some n)) => st_cell h (below_box w (.cells #[.slice A M.length c] 28)) hj)
  have HL := Lib.hid hi
  have HG := Lib.hid (And.intro hg hr)
  obtain ⟨B, hB⟩ : ∃ B, B = hasN L k := ⟨_, rfl⟩
  rw [← hB]
  have HB := Lib.hid hB
  clear h hg hi hr hB
  go_enter Try.func72, Try.ntmps72
  go_wp2
  go_loop [1] (fun nd => ∃ (q : Nat) (rest : List Nat), nd = .int .i64 q ∧ Chn M q rest ∧ hasN rest k = B) (fun nd => d (intOf nd).toNat)
  case atStart => exact ⟨i, L, rfl, HL.out, HB.out.symm⟩
  case round =>
    obtain ⟨q, rest, rfl, hq, hb⟩ := hrel
    by_cases hk : (q : Int) = k
    · have hbt : B = true := by
        rw [← hb, hasN_iff]
        refine ⟨q, ?_, hk⟩
        exact (hq.mem q).2 (.refl q)
      have e1 : ((q : Int) != k) = false := by rw [hk]; simp
      have e2 : ((q : Int) == k) = true := by rw [hk]; simp
      have HK := Lib.hid hbt
      clear hk hbt hb hq
      go_wp2
      go_ret
      exact ⟨by rw [HK.out]; rfl, below_box _ _⟩
    · have e1 : ((q : Int) != k) = true := by rw [bne_iff_ne]; exact hk
      have e2 : ((q : Int) == k) = false := by rw [beq_eq_false_iff_ne]; exact hk
      by_cases hq0 : q = 0
      · subst hq0
        have hz := hq.zero HG.out.1
        have hbf : B = false := by
          rw [← hb, hz, hasN_cons, e2]; rfl
        clear e1 e2
        have e1 : ((0 : Int) != k) = true := by rw [bne_iff_ne]; exact fun e => hk (by omega)
        have e2 : ((0 : Int) == k) = false := by rw [beq_eq_false_iff_ne]; exact fun e => hk (by omega)
        have HK := Lib.hid hbf
        clear hk hbf hb hq hz
        go_wp2
        go_ret
        exact ⟨by rw [HK.out]; rfl, below_box _ _⟩
      · obtain ⟨n, p, l', hn, hp, hl', rfl⟩ := hq.next hq0
        obtain ⟨g, f, rfl, r0⟩ := HS.out q n hn
        rw [hp] at r0
        have hql := (List.getElem?_eq_some_iff.1 hn).1
        have hrk := HG.out.1.parent_rank HG.out.2 hn hp
        have hb' : hasN l' k = B := by rw [← hb, hasN_cons, e2]; rfl
        have HP := Lib.hid (And.intro hl' (And.intro hb' hrk))
        clear hq hn hp hl' hb hb' hrk hk
        go_wp2
        go_round
        case rel => exact ⟨p, l', rfl, HP.out.1, HP.out.2.1⟩
        case measure =>
          have := HP.out.2.2
          simp [intOf]; omega

/-- What Below returns. -/
def BelowOf (M : Tr) (k : Int) (B : Nat) (e : Ending) (w' : World) : Prop :=
  ∃ A c l, e = .returned (.slice A l.length c) ∧ Under M k M.length l ∧ w'.ownsRow B 3 1 (.slice A l.length c) l.length (nints l)

set_option maxRecDepth 100000 in
set_option maxHeartbeats 2000000 in
theorem belowR_ok (K : Nat → Prop) (w : World) (A : Option Addr) (c : Nat) (M : Tr) (k : Int) (h : StK K w A c (save M)) (hg : Good M) :
    Calls Try.prog 66 #[.agg #[.slice A M.length c], .int .i64 k] w fun e w' => BelowOf M k w.heap.size e w' ∧ Below w.heap.size w w' := by
  obtain ⟨hc1, hc2⟩ := st_len h
  have hbx := below_box w (.cells #[.slice A M.length c] 28)
  have hS1 := h.below hbx
  have hm := hg.len
  have hp := hg.pos
  have hbc : (w.alloc (.cells #[.slice A M.length c] 28)).cell? ⟨w.heap.size, 0, none⟩ = some (.slice A M.length c) := by rw [World.cell?_alloc_at _ _ _ _ rfl]; rfl
  have hs1 : (w.alloc (.cells #[.slice A M.length c] 28)).heap.size = w.heap.size + 1 := by simp
  obtain ⟨i0, z0, hi0, hz0, hz1, hz2, hz3⟩ := info_open int_info
  cases hf : find M k with
  | none =>
    have HO := Lib.hid (open_no K _ A c M k hS1 hf)
    have HB := Lib.hid (And.intro hbx (under_none hg hf M.length))
    clear h hbx hS1 hf hg
    go_enter Try.func66, Try.ntmps66
    go_wp2_with fail
    generalize (w.alloc (.cells #[.slice A M.length c] 28)) = W1 at *
    go_loopw [5, 6] (fun out i wr => out = .slice none 0 0 ∧ i = .int .i64 0 ∧ wr = W1) (fun _ _ _ => 0)
    case atStart => exact ⟨rfl, rfl, rfl⟩
    case round =>
      obtain ⟨rfl, rfl, rfl⟩ := hrel
      have hpp : (0 : Int) < (M.length : Int) := by omega
      go_wp2_with ((go_at_call 52; refine HO.out.mono ?_; rintro e w1 ⟨rfl, hb1⟩; have HB1 := Lib.hid hb1; clear hb1))
      go_ret
      exact ⟨⟨none, 0, [], rfl, HB.out.2, World.ownsRow_nil _ _ _ _⟩, HB.out.1.trans (HB1.out.mono HB.out.1.size)⟩
  | some n0 =>
    obtain ⟨h0, hi⟩ := find_some hf
    have HOk := Lib.hid (fun w2 (hb : Below (w.alloc (.cells #[.slice A M.length c] 28)).heap.size _ w2) => open_yes K w2 A c M k n0 (hS1.below hb) hf)
    have HOy := Lib.hid (fun w2 (hb : Below (w.alloc (.cells #[.slice A M.length c] 28)).heap.size _ w2) (j : Nat) (q : Node) (hj : M[j]? = some (some q)) => open_yes K w2 A c M j q (hS1.below hb) (by rw [find, if_neg (by omega), Int.toNat_natCast, hj]; rfl))
    have HOn := Lib.hid (fun w2 (hb : Below (w.alloc (.cells #[.slice A M.length c] 28)).heap.size _ w2) (j : Nat) (hj : ∀ q, M[j]? ≠ some (some q)) => open_no K w2 A c M j (hS1.below hb) (by
      rw [find, if_neg (by omega), Int.toNat_natCast]
      cases e : M[j]? with
      | none => rfl
      | some o =>
        cases o with
        | none => rfl
        | some q => exact absurd e (hj q)))
    have HIn := Lib.hid (fun w2 (hb : Below (w.alloc (.cells #[.slice A M.length c] 28)).heap.size _ w2) (j : Nat) (L : List Nat) (hL : Chn M j L) => insideR_ok K w2 A c M j L k (hS1.below hb) hg hL)
    have HG := Lib.hid (And.intro hg hbx)
    clear h hbx hS1 hf hg hi
    go_enter Try.func66, Try.ntmps66
    go_wp2_with fail
    generalize (w.alloc (.cells #[.slice A M.length c] 28)) = W1 at *
    go_loopw [5, 6] (fun out i wr => ∃ (j : Nat) (L : List Nat) (A' : Option Addr) (c' : Nat), j ≤ M.length ∧ i = .int .i64 j ∧ out = .slice A' L.length c' ∧ Under M k j L ∧ wr.ownsRow W1.heap.size 3 1 out L.length (nints L) ∧ Below W1.heap.size W1 wr) (fun _ i _ => M.length - (intOf i).toNat)
    case atStart => exact ⟨0, [], none, 0, Nat.zero_le _, rfl, rfl, Under.nil M k, World.ownsRow_nil _ _ _ _, Below.refl _ _⟩
    case round =>
      obtain ⟨j, L, A', c', hj, rfl, rfl, hU, hrow, hb⟩ := hrel
      have hbs := hb.size
      have hbr := (hb.cell (p := ⟨w.heap.size, _, none⟩) (show w.heap.size < W1.heap.size by omega)).trans hbc
      have hUl := hU.len
      by_cases hjl : j < M.length
      · have HK1 := Lib.hid (HOk.out wr hb)
        by_cases ho : ∃ q, M[j]? = some (some q)
        · obtain ⟨q, hq⟩ := ho
          obtain ⟨L2, hL2⟩ := HG.out.1.chn ⟨q, hq⟩
          obtain ⟨hs1', hs2⟩ := under_step hU h0 hL2 (hasN L2 k) (hasN_iff L2 k)
          have HE := Lib.hid (And.intro hU (And.intro hrow (And.intro hb (And.intro hs1' (And.intro hs2 (And.intro hq hL2))))))
          clear hU hrow hb hs1' hs2 hq hL2
          go_wp2_with (go_at_call 52; fail)
          refine HK1.out.mono ?_
          rintro e w2 ⟨rfl, hb2⟩
          have hb2s := hb2.size
          have hbr2 := (hb2.cell (p := ⟨w.heap.size, _, none⟩) (show w.heap.size < wr.heap.size by omega)).trans hbr
          have HK2 := Lib.hid (HOy.out w2 (HE.out.2.2.1.trans (hb2.mono hbs)) j q HE.out.2.2.2.2.2.1)
          have H2 := Lib.hid hb2
          clear hb2
          go_wp2_with (go_at_call 52; fail)
          refine HK2.out.mono ?_
          rintro e w3 ⟨rfl, hb3⟩
          have hb3s := hb3.size
          have hbr3 := (hb3.cell (p := ⟨w.heap.size, _, none⟩) (show w.heap.size < w2.heap.size by omega)).trans hbr2
          have HK3 := Lib.hid (HIn.out w3 (HE.out.2.2.1.trans ((H2.out.trans (hb3.mono hb2s)).mono hbs)) j L2 HE.out.2.2.2.2.2.2)
          have H3 := Lib.hid hb3
          clear hb3
          go_wp2_with (go_at_call 72; fail)
          refine HK3.out.mono ?_
          rintro e w4 ⟨rfl, hb4⟩
          have hb4s := hb4.size
          have hB4 : Below wr.heap.size wr w4 := H2.out.trans ((H3.out.trans (hb4.mono hb3s)).mono hb2s)
          have hrow4 : w4.ownsRow W1.heap.size 3 1 (.slice A' L.length c') L.length (nints L) := row_below HE.out.2.1 hB4
          have HB4 := Lib.hid (HE.out.2.2.1.trans (hB4.mono hbs))
          clear hb4 hB4
          cases hB : hasN L2 k with
          | false =>
            have hu := HE.out.2.2.2.2.1 hB
            have HR := Lib.hid (And.intro hu hrow4)
            clear hu hrow4 hB
            go_wp2
            go_roundw
            case rel => exact ⟨j + 1, L, A', c', by omega, by go_num, rfl, HR.out.1, HR.out.2, HB4.out⟩
            case measure => simp [intOf]; omega
          | true =>
            have hu := HE.out.2.2.2.1 hB
            have HR := Lib.hid (And.intro hu hrow4)
            clear hu hrow4 hB
            go_wp2_with (first
              | (at_builtin; refine wpList_append_lies _ rfl (.tmp 28) (.tmp 30) _ rfl W1.heap.size 3 i0 z0 1 8 Try.underlying36 hi0 hz0 hz1 hz2 hz3 (by omega) (.slice A' L.length c') L.length (nints L) rfl (HR.out.2.alloc _) ⟨w4.heap.size, 0, none⟩ 1 1 [.int .i64 (j : Int)] rfl rfl (World.news_of_block (heap_alloc_new _ _)) (by simp [Value.oneCell']) (by omega) (by unfold maxLen; omega) (by omega) (by simp; omega) (w4.heap.size + 1) (by simp) ?_
                 intro gg capg wg hown1 hgrow1 hat1 hlt1
                 have hbg : Below W1.heap.size W1 wg := (HB4.out.alloc (by omega) _).grown hgrow1 (by simp; omega) (fun k hk => (HR.out.2.lt k hk).1)
                 have HBG := Lib.hid (And.intro hbg hown1)
                 clear hbg hown1 hgrow1 hat1))
            go_roundw
            case rel =>
              have : nints (L ++ [j]) = nints L ++ [.int .i64 (j : Int)] := by simp [nints]
              exact ⟨j + 1, L ++ [j], some ⟨gg, 0, none⟩, capg, by omega, by go_num, by simp, HR.out.1, by rw [this]; simpa using HBG.out.2, HBG.out.1⟩
            case measure => simp [intOf]; omega
        · have hno : ∀ q, M[j]? ≠ some (some q) := fun q hq => ho ⟨q, hq⟩
          have hu : Under M k (j + 1) L := hU.no fun h => ho h.1
          have HE := Lib.hid (And.intro hu (And.intro hrow (And.intro hb hno)))
          clear hU hrow hb hno hu ho
          go_wp2_with (go_at_call 52; fail)
          refine HK1.out.mono ?_
          rintro e w2 ⟨rfl, hb2⟩
          have hb2s := hb2.size
          have hbr2 := (hb2.cell (p := ⟨w.heap.size, _, none⟩) (show w.heap.size < wr.heap.size by omega)).trans hbr
          have HK2 := Lib.hid (HOn.out w2 (HE.out.2.2.1.trans (hb2.mono hbs)) j HE.out.2.2.2)
          have H2 := Lib.hid hb2
          clear hb2
          go_wp2_with (go_at_call 52; fail)
          refine HK2.out.mono ?_
          rintro e w3 ⟨rfl, hb3⟩
          have hb3s := hb3.size
          have H3 := Lib.hid hb3
          clear hb3
          go_wp2
          go_roundw
          case rel =>
            have hB3 : Below wr.heap.size wr w3 := H2.out.trans (H3.out.mono hb2s)
            exact ⟨j + 1, L, A', c', by omega, by go_num, rfl, HE.out.1, row_below HE.out.2.1 hB3, HE.out.2.2.1.trans (hB3.mono hbs)⟩
          case measure => simp [intOf]; omega
      · obtain rfl : j = M.length := by omega
        have HE := Lib.hid (And.intro hU (And.intro hrow hb))
        clear hU hrow hb
        go_wp2
        go_ret
        refine ⟨⟨A', c', L, rfl, HE.out.1, ?_⟩, HG.out.2.trans (HE.out.2.2.mono HG.out.2.size)⟩
        have := HE.out.2.1
        exact ⟨this.1, by rcases this.2 with e | ⟨g, cap, cur, e1, e2, r⟩; (exact .inl e); exact .inr ⟨g, cap, cur, e1, by omega, r⟩⟩
end Ne
end Go.Proofs.Ytllmddhahpegmaa
