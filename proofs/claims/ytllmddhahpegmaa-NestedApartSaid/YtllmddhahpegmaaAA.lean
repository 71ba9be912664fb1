/- The walk of Chain. -/
import Derived.Test.YtllmddhahpegmaaZ0
import Derived.Test.YtllmddhahpegmaaPlain10
namespace Go.Proofs.Ytllmddhahpegmaa
open Go.RowKit
namespace Ne

def lenOf : Value → Nat
  | .slice _ n _ => n
  | _ => 0

def nints (l : List Nat) : List Value := l.map fun a : Nat => Value.int .i64 (a : Int)
theorem nints_length (l : List Nat) : (nints l).length = l.length := by simp [nints]

/-- What Chain returns. -/
def ChainOf (M : Tr) (i : Int) (B : Nat) (e : Ending) (w' : World) : Prop :=
  (find M i = none ∧ e = .returned (.tuple #[.slice none 0 0, .int .i64 4])) ∨
  ∃ A c l, 0 ≤ i ∧ Chn M i.toNat l ∧ e = .returned (.tuple #[.slice A l.length c, .int .i64 0]) ∧ w'.ownsRow B 3 1 (.slice A l.length c) l.length (nints l)

set_option maxRecDepth 100000 in
set_option maxHeartbeats 1000000 in
theorem chain_ok (w : World) (own : Nat → Option Nat) (t : Nat) (M : Tr) (i : Int) (h : Tree w own t M) (hgood : Good M) :
    Calls Try.prog 27 #[.pointer (some ⟨t, 0, none⟩), .int .i64 i] w fun e w' => ChainOf M i w.heap.size e w' ∧ Below w.heap.size w w' := by
  obtain ⟨g, cap, cs, h⟩ := h
  have hF := find_tree w own t g cap cs M i h ⟨hgood.pos, hgood.len⟩
  have hm := hgood.len
  have hlen := h.len
  have hmost := h.most
  unfold maxLen at hmost
  have c0 : w.cell? ⟨t, 0, none⟩ = some (.slice (some ⟨g, 0, none⟩) M.length cap) := by simp [World.cell?, h.top]
  have htl := lt_of_heap h.top
  have hgl := lt_of_heap h.row
  have hC : ∀ (c : Nat) (n : Node), M[c]? = some (some n) → ∃ b, b < w.heap.size ∧ w.cell? ⟨g, c, none⟩ = some (.pointer (some ⟨b, 0, none⟩)) ∧ w.cell? ⟨b, 0, none⟩ = some (.int .i64 n.p) := by
    intro c n hc
    obtain ⟨v, hv, hn⟩ := h.node _ _ hc
    obtain ⟨b, iv, rfl, _, hb, _⟩ := hn
    exact ⟨b, lt_of_heap hb, by rw [cell_of_row w g _ cs _ _ h.row, hv], by simp [World.cell?, hb, NodeCells]⟩
  have HC := Lib.hid hC
  have HF := Lib.hid hF
  have HG := Lib.hid hgood
  clear hC hF h hgood
  cases hf : find M i with
  | none =>
    have HN := Lib.hid hf
    clear hf
    go_enter Try.func27, Try.ntmps27
    go_wp2_with (go_at_call 37; fail)
    refine HF.out.mono ?_
    rintro e w1 ⟨(⟨_, rfl⟩ | ⟨n, b, iv, hf, _⟩), rfl⟩
    · go_wp2
      go_ret2
      exact ⟨.inl ⟨HN.out, rfl⟩, Below.refl _ _⟩
    · rw [HN.out] at hf; cases hf
  | some n0 =>
    obtain ⟨h0, hi⟩ := find_some hf
    obtain ⟨k, rfl⟩ := Int.eq_ofNat_of_zero_le h0
    rw [Int.toNat_natCast] at hi
    obtain ⟨L, hL⟩ := HG.out.chn ⟨n0, hi⟩
    have hL64 := hL.len HG.out
    have HL := Lib.hid hL
    have HN := Lib.hid hf
    obtain ⟨i0, z0, hi0, hz0, hz1, hz2, hz3⟩ := info_open int_info
    clear hf hi hL h0
    go_enter Try.func27, Try.ntmps27
    go_wp2_with (go_at_call 37; fail)
    refine HF.out.mono ?_
    rintro e w1 ⟨(⟨hf, rfl⟩ | ⟨n, b, iv, _, _, _, _, _, _, _, rfl⟩), rfl⟩
    · rw [HN.out] at hf; cases hf
    clear HF
    go_wp2_with fail
    go_loopw [1, 8] (fun nd out wr => ∃ (l1 l2 : List Nat) (A : Option Addr) (c : Nat), L = l1 ++ l2 ∧ ((l2 = [] ∧ nd = .int .i64 (-1)) ∨ ∃ q : Nat, nd = .int .i64 q ∧ Chn M q l2) ∧ out = .slice A l1.length c ∧ wr.ownsRow w.heap.size 3 1 out l1.length (nints l1) ∧ Below w.heap.size w wr) (fun _ out _ => L.length + 1 - lenOf out)
    case atStart => exact ⟨[], L, none, 0, rfl, .inr ⟨k, rfl, HL.out⟩, rfl, World.ownsRow_nil _ _ _ _, Below.refl _ _⟩
    case round =>
      obtain ⟨l1, l2, A, c, hl, hnd, rfl, hrow, hb⟩ := hrel
      rcases hnd with ⟨rfl, rfl⟩ | ⟨q, rfl, hq⟩
      · have HE := Lib.hid (And.intro hl (And.intro hrow hb))
        clear hl hrow hb
        go_wp2
        go_ret2
        have hl : L = l1 := by simpa using HE.out.1
        refine ⟨.inr ⟨A, c, L, by omega, by simpa using HL.out, ?_, ?_⟩, HE.out.2.2⟩
        · rw [hl]; rfl
        · rw [hl]; exact HE.out.2.1
      · have hl1 : l1.length < 64 := by
          have := hq.ne
          have h2 : 0 < l2.length := List.length_pos_iff.2 this
          rw [hl, List.length_append] at hL64
          omega
        have hLl : L.length = l1.length + l2.length := by rw [hl, List.length_append]
        obtain ⟨n, hn⟩ := hq.opn
        obtain ⟨b, hbl, r2, r3⟩ := HC.out q n hn
        have hql := (List.getElem?_eq_some_iff.1 hn).1
        have hbs := hb.size
        have HE := Lib.hid (And.intro hl (And.intro hrow (And.intro hb hq)))
        have HQ := Lib.hid hn
        have HLl := Lib.hid hLl
        clear hl hb hq hn hLl
        go_wp2_with (first |
          (at_builtin; refine wpList_append_lies _ rfl (.tmp 30) (.tmp 32) _ rfl w.heap.size 3 i0 z0 1 8 Try.underlying36 hi0 hz0 hz1 hz2 hz3 (by omega) (.slice A l1.length c) l1.length (nints l1) rfl (hrow.alloc _) ⟨wr.heap.size, 0, none⟩ 1 1 [.int .i64 (q : Int)] rfl rfl (World.news_of_block (heap_alloc_new _ _)) (by simp [Value.oneCell']) (by omega) (by unfold maxLen; omega) (by omega) (by simp; omega) (wr.heap.size + 1) (by simp) ?_
           intro gg capg wg hown1 hgrow1 hat1 hlt1
           have hbg : Below w.heap.size w wg := (HE.out.2.2.1.alloc hbs _).grown hgrow1 (by simp; omega) (fun k hk => (HE.out.2.1.lt k hk).1)
           have s1 := (hbg.cell (p := ⟨t, _, none⟩) htl).trans c0
           have s2 := (hbg.cell (p := ⟨g, _, none⟩) hgl).trans r2
           have s3 := (hbg.cell (p := ⟨b, _, none⟩) hbl).trans r3
           have HB := Lib.hid hbg
           clear hbg))
        go_roundw
        case rel =>
          have hq := HE.out.2.2.2
          have hown : wg.ownsRow w.heap.size 3 1 (.slice (some ⟨gg, 0, none⟩) (l1.length + 1) capg) (l1.length + 1) (nints (l1 ++ [q])) := by
            have : nints (l1 ++ [q]) = nints l1 ++ [.int .i64 (q : Int)] := by simp [nints]
            rw [this]; exact hown1
          cases hq with
          | root n' hn' hp =>
            have : n = n' := by have := HQ.out; rw [hn'] at this; injection this with this; injection this with this; exact this.symm
            subst this
            refine ⟨l1 ++ [0], [], some ⟨gg, 0, none⟩, capg, by simpa using HE.out.1, .inl ⟨rfl, by rw [hp]⟩, by simp, by simpa using hown, HB.out⟩
          | step _ p n' l' hn' hp hl' =>
            have : n = n' := by have := HQ.out; rw [hn'] at this; injection this with this; injection this with this; exact this.symm
            subst this
            refine ⟨l1 ++ [q], l', some ⟨gg, 0, none⟩, capg, by simpa using HE.out.1, .inr ⟨p, by rw [hp], hl'⟩, by simp, by simpa using hown, HB.out⟩
        case measure =>
          have := HLl.out
          simp [lenOf]; omega
end Ne
end Go.Proofs.Ytllmddhahpegmaa
