/- Largest and Room of the specification. -/
import Derived.Test.YtdanhbbdkcbapaaRH
namespace Go.Proofs.Ytdanhbbdkcbapaa
open Go.RowKit
namespace Bu

def largeI : Option Nat → Int
  | some k => (k : Int)
  | none => -1
def LargeV : Option Nat → Value
  | some k => .tuple #[.int .i64 (k : Int), .int .i64 0]
  | none => .tuple #[.int .i64 0, .int .i64 4]

theorem largeI_next (a : Option Nat) (n : Nat) : largeI (some (max (a.getD 0) n)) = max (largeI a) (n : Int) := by
  cases a with
  | none => show (((max 0 n : Nat)) : Int) = max (-1) (n : Int); omega
  | some k => show (((max k n : Nat)) : Int) = max (k : Int) (n : Int); omega

theorem small_blocks {N : Nat} {L : List Blk} (h : St N L) : Small (blocksB N L) := fun x hx => by
  have := ((mem_blocks h x).1 hx).lt
  have hn := h.n10
  have : 2 ^ N ≤ 2 ^ 10 := Nat.pow_le_pow_right (by omega) hn
  omega
theorem asc_len {L : List Blk} {N : Nat} (ha : L.Pairwise fun a b => a.1 + 2 ^ a.2 ≤ b.1) (hb : ∀ x ∈ L, x.1 + 2 ^ x.2 ≤ N) : L.length ≤ N := by
  have key : ∀ (L : List Blk) (s : Nat), L.Pairwise (fun a b => a.1 + 2 ^ a.2 ≤ b.1) → (∀ x ∈ L, s ≤ x.1 ∧ x.1 + 2 ^ x.2 ≤ N) → s ≤ N → L.length + s ≤ N := by
    intro L
    induction L with
    | nil => intro s _ _ h; simpa using h
    | cons x L ih =>
      intro s hp hx hs
      rw [List.pairwise_cons] at hp
      have h1 := hx x (List.mem_cons_self ..)
      have h2 := pow_pos2 x.2
      have := ih (x.1 + 2 ^ x.2) hp.2 (fun y hy => ⟨hp.1 y hy, (hx y (List.mem_cons_of_mem _ hy)).2⟩) h1.2
      rw [List.length_cons]
      omega
  have := key L 0 ha (fun x hx => ⟨Nat.zero_le _, hb x hx⟩) (Nat.zero_le _)
  omega
theorem blocks_len {N : Nat} {L : List Blk} (h : St N L) : (blocksB N L).length ≤ 1024 := asc_len (blocks_asc h) fun x hx => (small_blocks h x hx).2
theorem st_len {N : Nat} {L : List Blk} (h : St N L) : L.length ≤ 1024 := asc_len h.asc fun x hx => (st_le h x hx).2

set_option maxRecDepth 100000 in
set_option maxHeartbeats 2000000 in
theorem largeR_ok (w : World) (N : Nat) (A : Option Addr) (c : Nat) (L : List Blk) (h : BlkAt w A c L) (hS : St N L) :
    Calls Try.prog 44 #[sv N A L.length c] w fun e w' => e = .returned (LargeV (largeB none (blocksB N L))) ∧ Below w.heap.size w w' := by
  obtain ⟨b1, b2⟩ := state_cells w (.int .i64 (N : Int)) (.slice A L.length c) 24
  have hb0 := below_box w (.cells #[.int .i64 (N : Int), .slice A L.length c] 24)
  obtain ⟨W1, hW1⟩ : ∃ W1, W1 = w.alloc (.cells #[.int .i64 (N : Int), .slice A L.length c] 24) := ⟨_, rfl⟩
  rw [← hW1] at b1 b2 hb0
  have hs1 : W1.heap.size = w.heap.size + 1 := by rw [hW1]; simp
  have hBl := blocksR_ok W1 N A c L (h.below hb0) (st_le hS) hS.n10
  have hsm := small_blocks hS
  have hln := blocks_len hS
  obtain ⟨r, hr⟩ : ∃ r, r = largeB none (blocksB N L) := ⟨_, rfl⟩
  rw [← hr]
  obtain ⟨B, hB⟩ : ∃ B, B = blocksB N L := ⟨_, rfl⟩
  rw [← hB] at hBl hr hsm hln
  have HBl := Lib.hid hBl
  have HR := Lib.hid (And.intro hr (And.intro hb0 (And.intro hs1 hsm)))
  have HW := Lib.hid hW1
  clear hW1 hb0 hs1 h hS hBl hr hB hsm
  go_enter Try.func44, Try.ntmps44
  go_wp2_with (fail)
  rw [← HW.out]
  go_wp2_with (go_at_call 45; refine HBl.out.mono ?_; rintro e w' ⟨⟨A', c', rfl, hown⟩, hbw⟩; have H5 := Lib.hid (And.intro hown hbw); clear hown hbw)
  have hat := H5.out.1.at.1
  have hcap := hat.len
  unfold maxLen at hcap
  have HA := Lib.hid hat
  clear hat
  go_loop [5, 6] (fun b i => ∃ (k : Nat) (a : Option Nat), k ≤ B.length ∧ i = .int .i64 k ∧ b = .int .i64 (largeI a) ∧ largeB none B = largeB a (B.drop k) ∧ (∀ v, a = some v → v ≤ 10)) (fun _ i => B.length - (intOf i).toNat)
  case atStart => exact ⟨0, none, Nat.zero_le _, rfl, rfl, rfl, fun v hv => by cases hv⟩
  case round =>
    obtain ⟨k, a, hk, rfl, rfl, hla, hav⟩ := hrel
    have e0 : (0 : Int) ≤ (k : Int) := by omega
    by_cases hlt : k < B.length
    · obtain ⟨x, hx⟩ : ∃ x, B[k]? = some x := ⟨_, List.getElem?_eq_getElem hlt⟩
      obtain ⟨g, o, hA, hg, d1, d2⟩ := HA.out.at hx
      have hd : B.drop k = x :: B.drop (k + 1) := by
        rw [List.drop_eq_getElem_cons hlt]
        congr 1
        rw [List.getElem?_eq_getElem hlt] at hx
        injection hx
      have hx10 := (HR.out.2.2.2 x (List.mem_of_getElem? hx)).1
      rw [hd, largeB] at hla
      obtain ⟨p, n⟩ := x
      subst hA
      dsimp only at d1 d2 hla hx10
      have hkk : IntKind.i64.wrap ((k : Int) + 1) = ((k + 1 : Nat) : Int) := by rw [IntWalk.i64_in _ (by omega)]; rfl
      have e1 : (k : Int) < (B.length : Int) := by omega
      have hmx := largeI_next a n
      obtain ⟨y, hy⟩ : ∃ y, y = largeI a := ⟨_, rfl⟩
      rw [← hy] at hmx ⊢
      have hres : largeI (some (max (a.getD 0) n)) = (if y < (n : Int) then (n : Int) else y) := by rw [hmx]; omega
      have ha2 : ∀ v, some (max (a.getD 0) n) = some v → v ≤ 10 := fun v hv => by
        injection hv with hv
        cases a with
        | none => simp at hv; omega
        | some u => have := hav u rfl; simp at hv; omega
      have HB := Lib.hid (And.intro hla (And.intro hmx ha2))
      clear hla hmx ha2 hres hy hav hx hd
      go_wp2
      have hif : (if y < (n : Int) then (n : Int) else y) = max y (n : Int) := by split <;> omega
      exact ⟨⟨k + 1, some (max (a.getD 0) n), by omega, by go_num, by rw [HB.out.2.1, hif], HB.out.1, HB.out.2.2⟩, by simp [intOf]; omega⟩
    · obtain rfl : k = B.length := by omega
      rw [List.drop_length, largeB] at hla
      have HB := Lib.hid hla
      clear hla hav
      cases a with
      | none =>
        have e : largeI none = -1 := rfl
        rw [e]
        clear e
        go_wp2
        go_ret2
        refine ⟨?_, HR.out.2.1.trans (H5.out.2.mono (by have := HR.out.2.2.1; omega))⟩
        rw [HR.out.1, HB.out]; rfl
      | some v =>
        have e : largeI (some v) = (v : Int) := rfl
        rw [e]
        have e3 : ¬ (v : Int) < 0 := by omega
        clear e
        go_wp2
        go_ret2
        refine ⟨?_, HR.out.2.1.trans (H5.out.2.mono (by have := HR.out.2.2.1; omega))⟩
        rw [HR.out.1, HB.out]; rfl

theorem room_len {n : Nat} : ∀ {B : List Blk}, Small B → roomB n B ≤ B.length * 1024 := by
  intro B
  induction B with
  | nil => intro _; exact Nat.zero_le _
  | cons x B ih =>
    intro h
    have h1 := ih fun y hy => h y (List.mem_cons_of_mem _ hy)
    have h2 := h x (List.mem_cons_self ..)
    have h3 : 2 ^ (x.2 - n) ≤ 2 ^ 10 := Nat.pow_le_pow_right (by decide) (by omega)
    have : roomB n (x :: B) = (if n ≤ x.2 then 2 ^ (x.2 - n) else 0) + roomB n B := by unfold roomB; simp
    rw [this, List.length_cons]
    split <;> omega

set_option maxRecDepth 100000 in
set_option maxHeartbeats 2000000 in
theorem roomR_bad (w : World) (N : Int) (A : Option Addr) (c n : Nat) (m : Int) (hm : ¬ (0 ≤ m ∧ m ≤ 10)) :
    Calls Try.prog 43 #[sv N A n c, .int .i64 m] w fun e w' => e = .returned (.tuple #[.int .i64 0, .int .i64 7]) ∧ Below w.heap.size w w' := by
  have hb0 := below_box w (.cells #[.int .i64 N, .slice A n c] 24)
  have hO := order_ok m (w.alloc (.cells #[.int .i64 N, .slice A n c] 24))
  rw [decide_eq_false hm] at hO
  have HO := Lib.hid (And.intro hO hb0)
  clear hO hb0 hm
  go_enter Try.func43, Try.ntmps43
  go_wp2_with (go_at_call 28; refine HO.out.1.mono ?_; rintro e w' ⟨rfl, rfl⟩)
  go_ret2
  exact ⟨rfl, HO.out.2⟩

set_option maxRecDepth 100000 in
set_option maxHeartbeats 2000000 in
theorem roomR_ok (w : World) (N : Nat) (A : Option Addr) (c : Nat) (L : List Blk) (n : Nat) (hn : n ≤ 10) (h : BlkAt w A c L) (hS : St N L) :
    Calls Try.prog 43 #[sv N A L.length c, .int .i64 (n : Int)] w fun e w' => e = .returned (.tuple #[.int .i64 ((roomB n (blocksB N L) : Nat) : Int), .int .i64 0]) ∧ Below w.heap.size w w' := by
  obtain ⟨b1, b2⟩ := state_cells w (.int .i64 (N : Int)) (.slice A L.length c) 24
  have hb0 := below_box w (.cells #[.int .i64 (N : Int), .slice A L.length c] 24)
  obtain ⟨W1, hW1⟩ : ∃ W1, W1 = w.alloc (.cells #[.int .i64 (N : Int), .slice A L.length c] 24) := ⟨_, rfl⟩
  rw [← hW1] at b1 b2 hb0
  have hs1 : W1.heap.size = w.heap.size + 1 := by rw [hW1]; simp
  have hO := order_ok (n : Int) W1
  rw [decide_eq_true (show (0 : Int) ≤ (n : Int) ∧ (n : Int) ≤ 10 by omega)] at hO
  have HO := Lib.hid hO
  have hBl := blocksR_ok W1 N A c L (h.below hb0) (st_le hS) hS.n10
  have hsm := small_blocks hS
  have hln := blocks_len hS
  obtain ⟨r, hr⟩ : ∃ r, r = roomB n (blocksB N L) := ⟨_, rfl⟩
  rw [← hr]
  obtain ⟨B, hB⟩ : ∃ B, B = blocksB N L := ⟨_, rfl⟩
  rw [← hB] at hBl hr hsm hln
  have HBl := Lib.hid hBl
  have HR := Lib.hid (And.intro hr (And.intro hb0 (And.intro hs1 hsm)))
  have HW := Lib.hid hW1
  clear hW1 hb0 hs1 h hS hBl hr hB hsm hO
  go_enter Try.func43, Try.ntmps43
  go_wp2_with (fail)
  rw [← HW.out]
  go_wp2_with (first | (go_at_call 28; refine HO.out.mono ?_; rintro e w' ⟨rfl, rfl⟩) | (go_at_call 45; refine HBl.out.mono ?_; rintro e w' ⟨⟨A', c', rfl, hown⟩, hbw⟩; have H5 := Lib.hid (And.intro hown hbw); clear hown hbw))
  have hat := H5.out.1.at.1
  have hcap := hat.len
  unfold maxLen at hcap
  have HA := Lib.hid hat
  clear hat
  go_loop [7, 8] (fun b i => ∃ (k s : Nat), k ≤ B.length ∧ i = .int .i64 k ∧ b = .int .i64 (s : Int) ∧ r = s + roomB n (B.drop k) ∧ s ≤ k * 1024) (fun _ i => B.length - (intOf i).toNat)
  case atStart => exact ⟨0, 0, Nat.zero_le _, rfl, rfl, by rw [HR.out.1, List.drop_zero, Nat.zero_add], Nat.le_refl _⟩
  case round =>
    obtain ⟨k, s, hk, rfl, rfl, hla, hsk⟩ := hrel
    have e0 : (0 : Int) ≤ (k : Int) := by omega
    by_cases hlt : k < B.length
    · obtain ⟨x, hx⟩ : ∃ x, B[k]? = some x := ⟨_, List.getElem?_eq_getElem hlt⟩
      obtain ⟨g, o, hA, hg, d1, d2⟩ := HA.out.at hx
      have hd : B.drop k = x :: B.drop (k + 1) := by
        rw [List.drop_eq_getElem_cons hlt]
        congr 1
        rw [List.getElem?_eq_getElem hlt] at hx
        injection hx
      have hx10 := (HR.out.2.2.2 x (List.mem_of_getElem? hx)).1
      have hrm : roomB n (B.drop k) = (if n ≤ x.2 then 2 ^ (x.2 - n) else 0) + roomB n (B.drop (k + 1)) := by rw [hd]; unfold roomB; simp
      rw [hrm] at hla
      obtain ⟨p, m⟩ := x
      subst hA
      dsimp only at d1 d2 hla hx10
      have hkk : IntKind.i64.wrap ((k : Int) + 1) = ((k + 1 : Nat) : Int) := by rw [IntWalk.i64_in _ (by omega)]; rfl
      have e1 : (k : Int) < (B.length : Int) := by omega
      by_cases hnm : n ≤ m
      · rw [if_pos hnm] at hla
        have e2 : (n : Int) ≤ (m : Int) := by omega
        have HZ := fun W => size_ok (m - n) W (by omega)
        have hpw : 2 ^ (m - n) ≤ 2 ^ 10 := Nat.pow_le_pow_right (by decide) (by omega)
        obtain ⟨P, hP⟩ : ∃ P : Nat, P = 2 ^ (m - n) := ⟨_, rfl⟩
        simp only [← hP] at HZ hla hpw
        have hsub : IntKind.i64.wrap ((m : Int) - (n : Int)) = ((m - n : Nat) : Int) := by rw [IntWalk.i64_in _ (by omega)]; omega
        have hsub2 : (m : Int) - (n : Int) = ((m - n : Nat) : Int) := by omega
        simp only [← hsub2] at HZ
        have HZ := Lib.hid HZ
        have hsum : IntKind.i64.wrap ((s : Int) + (P : Int)) = ((s + P : Nat) : Int) := by rw [IntWalk.i64_in _ (by omega)]; rfl
        have HB := Lib.hid hla
        clear hla hP hd hrm hx hsub2 hsub
        go_wp2_with (go_at_call 15; refine (HZ.out _).mono ?_; rintro e w' ⟨rfl, rfl⟩)
        exact ⟨⟨k + 1, s + P, by omega, by go_num, by go_num, by have := HB.out; omega, by omega⟩, by simp [intOf]; omega⟩
      · rw [if_neg hnm] at hla
        have e2 : ¬ (n : Int) ≤ (m : Int) := by omega
        have HB := Lib.hid hla
        clear hla hd hrm hx
        go_wp2
        exact ⟨⟨k + 1, s, by omega, by go_num, rfl, by have := HB.out; omega, by omega⟩, by simp [intOf]; omega⟩
    · obtain rfl : k = B.length := by omega
      have hz : roomB n (B.drop B.length) = 0 := by rw [List.drop_length]; rfl
      rw [hz, Nat.add_zero] at hla
      have HB := Lib.hid hla
      clear hla hz
      go_wp2
      go_ret2
      refine ⟨?_, HR.out.2.1.trans (H5.out.2.mono (by have := HR.out.2.2.1; omega))⟩
      rw [HB.out]; rfl
end Bu
end Go.Proofs.Ytdanhbbdkcbapaa
