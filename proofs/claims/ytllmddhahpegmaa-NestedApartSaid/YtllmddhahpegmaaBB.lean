/- The reference: rooted, Chain. -/
import Derived.Test.YtllmddhahpegmaaBA
namespace Go.Proofs.Ytllmddhahpegmaa
open Go.RowKit
namespace Ne

theorem Chn.lenM {M : Tr} (h : Good M) {c : Nat} {l : List Nat} (hc : Chn M c l) : l.length ≤ M.length := by
  obtain ⟨d, D, hr⟩ := h.ranked
  obtain ⟨h1, _⟩ := hc.ranks h hr
  refine pigeon _ l (h1.imp fun hab e => by subst e; omega) fun a ha => ?_
  obtain ⟨q, hq⟩ := anc_opn h ((hc.mem a).1 ha) hc.opn
  exact (List.getElem?_eq_some_iff.1 hq).1

/-- One step up. -/
theorem Chn.next {M : Tr} {c : Nat} {l : List Nat} (hc : Chn M c l) (hne : c ≠ 0) : ∃ n p l', M[c]? = some (some n) ∧ n.p = ((p : Nat) : Int) ∧ Chn M p l' ∧ l = c :: l' := by
  cases hc with
  | root _ _ _ => exact absurd rfl hne
  | step _ p n l' h1 h2 h3 => exact ⟨n, p, l', h1, h2, h3, rfl⟩

theorem Chn.zero {M : Tr} {l : List Nat} (hg : Good M) (hc : Chn M 0 l) : l = [0] := by
  cases hc with
  | root _ _ _ => rfl
  | step _ p n l' h1 h2 h3 =>
    have := (hg.node 0 n h1).root rfl
    omega

theorem st_cell {K : Nat → Prop} {w w' : World} {A : Option Addr} {c : Nat} {M : Tr} (h : StK K w A c (save M)) (hb : Below w.heap.size w w') {j : Nat} {n : Node} (hj : M[j]? = some (some n)) :
    ∃ g f, A = some ⟨g, f, none⟩ ∧ w'.cell? ⟨g, f + j * 5, none⟩ = some (.int .i64 n.p) := by
  obtain ⟨g, f, B, cB, rfl, hg, p0, _⟩ := st_at h hj
  exact ⟨g, f, rfl, (hb.cell (p := ⟨g, _, none⟩) hg).trans p0⟩

set_option maxHeartbeats 1000000 in
theorem rooted_ok (K : Nat → Prop) (w : World) (A : Option Addr) (c : Nat) (M : Tr) (i : Nat) (h : StK K w A c (save M)) (hg : Good M) (hi : Opn M i) :
    Calls Try.prog 32 #[.agg #[.slice A M.length c], .int .i64 i] w fun e w' => e = .returned (.bool true) ∧ Below w.heap.size w w' := by
  obtain ⟨hc1, hc2⟩ := st_len h
  obtain ⟨L, hL⟩ := hg.chn hi
  have hLM := hL.lenM hg
  have hm := hg.len
  have HS := Lib.hid (fun (j : Nat) (n : Node) (hj : M[j]? = some (some n)) => st_cell h (below_box w (.cells #[.slice A M.length c] 28)) hj)
  have HL := Lib.hid hL
  have HG := Lib.hid hg
  clear h hg hi hL
  go_enter Try.func32, Try.ntmps32
  go_wp2
  go_loop [1, 5] (fun nd k => ∃ (q j : Nat) (rest : List Nat), nd = .int .i64 q ∧ k = .int .i64 j ∧ Chn M q rest ∧ j + rest.length = L.length) (fun _ k => L.length - (intOf k).toNat)
  case atStart => exact ⟨i, 0, L, rfl, rfl, HL.out, by omega⟩
  case round =>
    obtain ⟨q, j, rest, rfl, rfl, hq, hjr⟩ := hrel
    by_cases hq0 : q = 0
    · subst hq0
      have hz := hq.zero HG.out
      have hrl : rest.length = 1 := by rw [hz]; rfl
      clear hq hz
      go_wp2
      go_ret
      exact ⟨rfl, below_box _ _⟩
    · obtain ⟨n, p, l', hn, hp, hl', rfl⟩ := hq.next hq0
      obtain ⟨g, f, rfl, r0⟩ := HS.out q n hn
      rw [hp] at r0
      have hl0 := List.length_pos_iff.2 hl'.ne
      have hlen : (q :: l').length = l'.length + 1 := rfl
      have hql := (List.getElem?_eq_some_iff.1 hn).1
      rw [hlen] at hjr
      have HP := Lib.hid hl'
      clear hq hn hp hl' hlen
      go_wp2
      go_round
      case rel => exact ⟨p, j + 1, l', rfl, by go_num, HP.out, by omega⟩
      case measure => simp [intOf]; omega

theorem owns_one (w : World) (v : Value) (t : TypeId) : (w.alloc (.cells #[v] t)).ownsRow w.heap.size t 1 (.slice (some ⟨w.heap.size, 0, none⟩) 1 1) 1 [v] :=
  ⟨rfl, .inr ⟨w.heap.size, 1, #[v], rfl, Nat.le_refl _, heap_alloc_new _ _, Nat.le_refl _, by unfold maxLen; omega, rfl, rfl⟩⟩

set_option maxRecDepth 100000 in
set_option maxHeartbeats 1000000 in
theorem chainR_ok (K : Nat → Prop) (w : World) (A : Option Addr) (c : Nat) (M : Tr) (i : Int) (h : StK K w A c (save M)) (hg : Good M) :
    Calls Try.prog 33 #[.agg #[.slice A M.length c], .int .i64 i] w fun e w' => ChainOf M i w.heap.size e w' ∧ Below w.heap.size w w' := by
  obtain ⟨hc1, hc2⟩ := st_len h
  have hbx := below_box w (.cells #[.slice A M.length c] 28)
  have hS1 := h.below hbx
  have hm := hg.len
  cases hf : find M i with
  | none =>
    have HO := Lib.hid (open_no K _ A c M i hS1 hf)
    have HB := Lib.hid (And.intro hbx hf)
    clear h hbx hS1 hf hg
    go_enter Try.func33, Try.ntmps33
    go_wp2_with (go_at_call 52; refine HO.out.mono ?_; rintro e w1 ⟨rfl, hb1⟩; have HB1 := Lib.hid hb1; clear hb1)
    go_ret2
    exact ⟨.inl ⟨HB.out.2, rfl⟩, HB.out.1.trans (HB1.out.mono HB.out.1.size)⟩
  | some n0 =>
    obtain ⟨h0, hi⟩ := find_some hf
    obtain ⟨k, rfl⟩ := Int.eq_ofNat_of_zero_le h0
    rw [Int.toNat_natCast] at hi
    obtain ⟨L, hL⟩ := hg.chn ⟨n0, hi⟩
    have hL64 := hL.len hg
    have HO := Lib.hid (open_yes K _ A c M k n0 hS1 hf)
    have HB := Lib.hid hbx
    have HS := Lib.hid hS1
    have HL := Lib.hid hL
    have HG := Lib.hid hg
    obtain ⟨i0, z0, hi0, hz0, hz1, hz2, hz3⟩ := info_open int_info
    have hs1 : (w.alloc (.cells #[.slice A M.length c] 28)).heap.size = w.heap.size + 1 := by simp
    have hbc : (w.alloc (.cells #[.slice A M.length c] 28)).cell? ⟨w.heap.size, 0, none⟩ = some (.slice A M.length c) := by rw [World.cell?_alloc_at _ _ _ _ rfl]; rfl
    clear h hbx hS1 hf hi hL hg h0
    go_enter Try.func33, Try.ntmps33
    go_wp2_with (go_at_call 52; refine HO.out.mono ?_; rintro e w1 ⟨rfl, hb1⟩; have HB1 := Lib.hid hb1; clear hb1)
    generalize (w.alloc (.cells #[.slice A M.length c] 28)) = W1 at *
    have hbs1 := HB1.out.size
    have hbc1 := (HB1.out.cell (p := ⟨w.heap.size, _, none⟩) (show w.heap.size < W1.heap.size by omega)).trans hbc
    go_loopw [1, 6] (fun nd out wr => ∃ (q : Nat) (l1 rest : List Nat) (A' : Option Addr) (c' : Nat), nd = .int .i64 q ∧ Chn M q rest ∧ L = l1 ++ rest ∧ out = .slice A' (l1.length + 1) c' ∧ wr.ownsRow W1.heap.size 3 1 out (l1.length + 1) (nints (l1 ++ [q])) ∧ Below W1.heap.size W1 wr) (fun _ out _ => L.length + 1 - lenOf out)
    case atStart =>
      refine ⟨k, [], L, some ⟨w1.heap.size, 0, none⟩, 1, rfl, HL.out, rfl, rfl, ?_, HB1.out.alloc hbs1 _⟩
      have := owns_one w1 (.int .i64 (k : Int)) 3
      exact ⟨this.1, by rcases this.2 with ⟨_, e⟩ | ⟨g, cap, cur, e1, e2, r⟩; (exact absurd e (by decide)); exact .inr ⟨g, cap, cur, e1, by omega, r⟩⟩
    case round =>
      obtain ⟨q, l1, rest, A', c', rfl, hq, hl, rfl, hrow, hb⟩ := hrel
      have hbs := hb.size
      have hbc := (hb.cell (p := ⟨w.heap.size, _, none⟩) (show w.heap.size < W1.heap.size by omega)).trans hbc
      have hLl : L.length = l1.length + rest.length := by rw [hl, List.length_append]
      by_cases hq0 : q = 0
      · subst hq0
        have hz := hq.zero HG.out
        have HE := Lib.hid (And.intro hl (And.intro hrow (And.intro hb hz)))
        clear hl hrow hb hq hz hLl
        go_wp2
        go_ret2
        have hl : L = l1 ++ [0] := by rw [HE.out.1, HE.out.2.2.2]
        have hll : L.length = l1.length + 1 := by rw [hl]; simp
        refine ⟨.inr ⟨A', c', L, by omega, by simpa using HL.out, ?_, ?_⟩, HB.out.trans (HE.out.2.2.1.mono HB.out.size)⟩
        · rw [hll]; rfl
        · rw [hll, hl]
          have := HE.out.2.1
          exact ⟨this.1, by rcases this.2 with e | ⟨g, cap, cur, e1, e2, r⟩; (exact .inl e); exact .inr ⟨g, cap, cur, e1, by omega, r⟩⟩
      · obtain ⟨n, p, l', hn, hp, hl', rfl⟩ := hq.next hq0
        obtain ⟨g, f, rfl, r0⟩ := st_cell HS.out hb hn
        rw [hp] at r0
        have hl0 := List.length_pos_iff.2 hl'.ne
        have hlen : (q :: l').length = l'.length + 1 := rfl
        have hql := (List.getElem?_eq_some_iff.1 hn).1
        rw [hlen] at hLl
        have hl1 : l1.length + 1 < 64 := by omega
        have HE := Lib.hid (And.intro hl (And.intro hrow (And.intro hb (And.intro hl' hLl))))
        clear hl hb hq hn hp hl' hlen hLl
        go_wp2_with (first |
          (at_builtin; refine wpList_append_lies _ rfl (.tmp 21) (.tmp 23) _ rfl W1.heap.size 3 i0 z0 1 8 Try.underlying36 hi0 hz0 hz1 hz2 hz3 (by omega) (.slice A' (l1.length + 1) c') (l1.length + 1) (nints (l1 ++ [q])) rfl (hrow.alloc _) ⟨wr.heap.size, 0, none⟩ 1 1 [.int .i64 (p : Int)] rfl rfl (World.news_of_block (heap_alloc_new _ _)) (by simp [Value.oneCell']) (by omega) (by unfold maxLen; omega) (by omega) (by simp; omega) (wr.heap.size + 1) (by simp) ?_
           intro gg capg wg hown1 hgrow1 hat1 hlt1
           have hbg : Below W1.heap.size W1 wg := (HE.out.2.2.1.alloc hbs _).grown hgrow1 (by simp; omega) (fun k hk => (HE.out.2.1.lt k hk).1)
           have HB2 := Lib.hid hbg
           clear hbg))
        go_roundw
        case rel =>
          refine ⟨p, l1 ++ [q], l', some ⟨gg, 0, none⟩, capg, rfl, HE.out.2.2.2.1, by simpa using HE.out.1, by simp, ?_, HB2.out⟩
          have : nints (l1 ++ [q] ++ [p]) = nints (l1 ++ [q]) ++ [.int .i64 (p : Int)] := by simp [nints]
          rw [this]; simpa using hown1
        case measure =>
          have := HE.out.2.2.2.2
          simp [lenOf]; omega
end Ne
end Go.Proofs.Ytllmddhahpegmaa
