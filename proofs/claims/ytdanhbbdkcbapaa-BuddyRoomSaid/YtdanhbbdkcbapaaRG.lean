/- SameBlocks and Same. -/
import Derived.Test.YtdanhbbdkcbapaaRE
import Derived.Laws.StructEq
import Derived.ChangeKeysEq
import Derived.Outline
namespace Go.Proofs.Ytdanhbbdkcbapaa
open Go.RowKit
namespace Bu

theorem run_blk_eq (w : World) (a b c d : Int) : (Op.equalIn 10000 39 (.agg #[.int .i64 a, .int .i64 b]) (.agg #[.int .i64 c, .int .i64 d])).run Try.prog w = .ok (a == c && b == d) w := by
  have hu : Try.prog.underlying 39 = some (.struct (Try.prog.fieldsOf 39)) := by kernel_rfl
  have hp : Try.prog.stoodInHeld 39 = false := by kernel_rfl
  have hf : (Try.prog.fieldsOf 39).toList.map (fun f => (f.name, f.type, f.offset)) = [("Page", 3, 0), ("Order", 3, 1)] := by kernel_rfl
  have he : Try.prog.plainKey 3 = true := by kernel_rfl
  have hi : Try.prog.underlying 3 = some (.int .i64) := by kernel_rfl
  rw [show (10000 : Nat) = 9999 + 1 from rfl, run_equalIn_struct w 9999 _ _ _ hu hp]
  generalize (Try.prog.fieldsOf 39).toList = fs at hf
  have hl : fs.length = 2 := by have := congrArg List.length hf; simpa using this
  obtain ⟨f, g, rfl⟩ : ∃ f g, fs = [f, g] := by
    cases fs with
    | nil => simp at hl
    | cons f fs => cases fs with
      | nil => simp at hl
      | cons g fs => cases fs with
        | nil => exact ⟨f, g, rfl⟩
        | cons h fs => simp at hl
  simp only [List.map_cons, List.map_nil, List.cons.injEq, Prod.mk.injEq, and_true] at hf
  obtain ⟨⟨f1, f2, f3⟩, g1, g2, g3⟩ := hf
  have p1 := fun (x y : Value) => run_part_plain (P := Try.prog) (w := w) he (xs := #[x, y]) (off := 0) (v := x) rfl
  have p2 := fun (x y : Value) => run_part_plain (P := Try.prog) (w := w) he (xs := #[x, y]) (off := 1) (v := y) rfl
  simp only [Op.eqFields, f1, f2, f3, g1, g2, g3, if_pos (show ("Page" : String) ≠ "_" by decide), if_pos (show ("Order" : String) ≠ "_" by decide), Sem.run_bind, p1, p2, Result.andThen, run_equalIn_int w 9998 3 .i64 .i64 _ _ hi]
  cases h1 : (a == c) with
  | false => simp
  | true =>
    cases h2 : (b == d) with
    | false => simp [Sem.run_bind, p2, Result.andThen, run_equalIn_int w 9998 3 .i64 .i64 _ _ hi, h2]
    | true => simp [Sem.run_bind, p2, Result.andThen, run_equalIn_int w 9998 3 .i64 .i64 _ _ hi, h2]

theorem eq_of_take {L M : List Blk} (h : ∀ j, j < L.length → j < M.length → L[j]? = M[j]?) (hl : L.length = M.length) : L = M := by
  apply List.ext_getElem?
  intro j
  by_cases e : j < L.length
  · exact h j e (by omega)
  · rw [List.getElem?_eq_none (by omega), List.getElem?_eq_none (by omega)]

set_option maxRecDepth 100000 in
set_option maxHeartbeats 2000000 in
theorem sameB_ok (w : World) (A B : Option Addr) (c d : Nat) (L M : List Blk) (h1 : BlkAt w A c L) (h2 : BlkAt w B d M) :
    Calls Try.prog 22 #[.slice A L.length c, .slice B M.length d] w fun e w' => e = .returned (.bool (decide (L = M))) ∧ ∃ n, w' = w.drewN n := by
  obtain ⟨l1, l2⟩ := h1.len
  obtain ⟨m1, m2⟩ := h2.len
  unfold maxLen at l2 m2
  obtain ⟨r, hr⟩ : ∃ r, r = decide (L = M) := ⟨_, rfl⟩
  rw [← hr]
  have HR := Lib.hid hr
  have H1 := Lib.hid (And.intro h1 h2)
  have heq := fun W x y z t => run_blk_eq W x y z t
  clear h1 h2 hr
  go_enter Try.func22, Try.ntmps22
  go_wp2
  go_loopw [5] (fun i wr => ∃ (k : Nat), k ≤ L.length ∧ k ≤ M.length ∧ i = .int .i64 k ∧ (∀ j, j < k → L[j]? = M[j]?) ∧ ∃ n, wr = w.drewN n) (fun i _ => L.length - (intOf i).toNat)
  case atStart => exact ⟨0, Nat.zero_le _, Nat.zero_le _, rfl, fun j hj => by omega, 0, rfl⟩
  case round =>
    obtain ⟨k, hk, hk2, rfl, hall, hn⟩ := hrel
    have HN := Lib.hid (And.intro hall hn)
    have b1 : BlkAt wr A c L := by obtain ⟨n, rfl⟩ := hn; exact H1.out.1
    have b2 : BlkAt wr B d M := by obtain ⟨n, rfl⟩ := hn; exact H1.out.2
    clear hall hn
    have e0 : (0 : Int) ≤ (k : Int) := by omega
    by_cases hlt : k < L.length
    · have hkk : IntKind.i64.wrap ((k : Int) + 1) = ((k + 1 : Nat) : Int) := by rw [IntWalk.i64_in _ (by omega)]; rfl
      have e1 : (k : Int) < (L.length : Int) := by omega
      by_cases hlt2 : k < M.length
      · have e2 : (k : Int) < (M.length : Int) := by omega
        obtain ⟨x, hx⟩ : ∃ x, L[k]? = some x := ⟨_, List.getElem?_eq_getElem hlt⟩
        obtain ⟨y, hy⟩ : ∃ y, M[k]? = some y := ⟨_, List.getElem?_eq_getElem hlt2⟩
        obtain ⟨g, o, hA, hg, d1, d2⟩ := b1.at hx
        obtain ⟨g', o', hB, hg', d3, d4⟩ := b2.at hy
        obtain ⟨p, n⟩ := x
        obtain ⟨q, m⟩ := y
        subst hA
        subst hB
        have HXY := Lib.hid (And.intro hx hy)
        clear hx hy b1 b2
        dsimp only at d1 d2 d3 d4
        by_cases hpq : p = q
        · have t1 : ((p : Int) == (q : Int)) = true := by simp [hpq]
          by_cases hnm : n = m
          · have t2 : ((n : Int) == (m : Int)) = true := by simp [hnm]
            have HE := Lib.hid (And.intro hpq hnm)
            clear hpq hnm
            go_wp2_with (fail)
            go_quiet (fail)
            go_wp2
            go_roundw
            case rel =>
              refine ⟨k + 1, by omega, by omega, by go_num, fun j hj => ?_, ?_⟩
              · by_cases e : j = k
                · subst e; rw [HXY.out.1, HXY.out.2, HE.out.1, HE.out.2]
                · exact HN.out.1 j (by omega)
              · obtain ⟨n, hn⟩ := HN.out.2
                exact ⟨_, by rw [hn]; exact World.drewN_drewN _ _ _⟩
            case measure => simp [intOf]; omega
          · have t2 : ((n : Int) == (m : Int)) = false := by rw [beq_eq_false_iff_ne]; omega
            have HE := Lib.hid hnm
            clear hpq hnm
            go_wp2_with (fail)
            go_quiet (fail)
            go_wp2
            go_ret
            refine ⟨?_, ?_⟩
            · rw [HR.out, decide_eq_false (fun h => by have := HXY.out; rw [h] at this; have := this.1.symm.trans this.2; injection this with this; injection this with h1 h2; exact HE.out h2)]; rfl
            · obtain ⟨n, hn⟩ := HN.out.2
              exact ⟨_, by rw [hn]; exact World.drewN_drewN _ _ _⟩
        · have t1 : ((p : Int) == (q : Int)) = false := by rw [beq_eq_false_iff_ne]; omega
          have HE := Lib.hid hpq
          clear hpq
          go_wp2_with (fail)
          go_quiet (fail)
          go_wp2
          go_ret
          refine ⟨?_, ?_⟩
          · rw [HR.out, decide_eq_false (fun h => by have := HXY.out; rw [h] at this; have := this.1.symm.trans this.2; injection this with this; injection this with h1 h2; exact HE.out h1)]; rfl
          · obtain ⟨n, hn⟩ := HN.out.2
            exact ⟨_, by rw [hn]; exact World.drewN_drewN _ _ _⟩
      · obtain rfl : k = M.length := by omega
        have t3 : ((L.length : Int) == (M.length : Int)) = false := by rw [beq_eq_false_iff_ne]; omega
        have t4 : ¬ ((M.length : Nat) : Int) < (M.length : Int) := by omega
        clear hkk b1 b2
        go_wp2
        go_ret
        refine ⟨?_, HN.out.2⟩
        rw [HR.out, decide_eq_false (fun h => by rw [h] at hlt; omega)]; rfl
    · obtain rfl : k = L.length := by omega
      clear b1 b2
      by_cases hl : L.length = M.length
      · have t3 : ((L.length : Int) == (M.length : Int)) = true := by rw [hl]; simp
        have HL := Lib.hid hl
        clear hl
        go_wp2
        go_ret
        refine ⟨?_, HN.out.2⟩
        rw [HR.out, decide_eq_true (eq_of_take (fun j h1 _ => HN.out.1 j h1) HL.out)]; rfl
      · have t3 : ((L.length : Int) == (M.length : Int)) = false := by rw [beq_eq_false_iff_ne]; omega
        have HL := Lib.hid hl
        clear hl
        go_wp2
        go_ret
        refine ⟨?_, HN.out.2⟩
        rw [HR.out, decide_eq_false (fun h => HL.out (by rw [h]))]; rfl

set_option maxRecDepth 100000 in
set_option maxHeartbeats 1000000 in
theorem same_ok (w : World) (N N' : Int) (A B : Option Addr) (c d : Nat) (L M : List Blk) (h1 : BlkAt w A c L) (h2 : BlkAt w B d M) :
    Calls Try.prog 19 #[sv N A L.length c, sv N' B M.length d] w fun e w' => e = .returned (.bool (decide (N = N' ∧ L = M))) ∧ Below w.heap.size w w' := by
  obtain ⟨b1, b2⟩ := state_cells w (.int .i64 N) (.slice A L.length c) 24
  have hb0 := below_box w (.cells #[.int .i64 N, .slice A L.length c] 24)
  obtain ⟨W1, hW1⟩ : ∃ W1, W1 = w.alloc (.cells #[.int .i64 N, .slice A L.length c] 24) := ⟨_, rfl⟩
  rw [← hW1] at b1 b2 hb0
  obtain ⟨b3, b4⟩ := state_cells W1 (.int .i64 N') (.slice B M.length d) 24
  have hb1 := below_box W1 (.cells #[.int .i64 N', .slice B M.length d] 24)
  have hs1 : W1.heap.size = w.heap.size + 1 := by rw [hW1]; simp
  obtain ⟨W2, hW2⟩ : ∃ W2, W2 = W1.alloc (.cells #[.int .i64 N', .slice B M.length d] 24) := ⟨_, rfl⟩
  rw [← hW2] at b3 b4 hb1
  rw [hs1] at b3 b4
  replace b1 := cell_keep2 hb1 b1
  replace b2 := cell_keep2 hb1 b2
  have hbb : Below w.heap.size w W2 := hb0.trans (hb1.mono (by omega))
  have HS := Lib.hid (sameB_ok W2 A B c d L M (h1.below hbb) (h2.below hbb))
  obtain ⟨r, hr⟩ : ∃ r, r = decide (N = N' ∧ L = M) := ⟨_, rfl⟩
  rw [← hr]
  have HR := Lib.hid (And.intro hr hbb)
  have HW := Lib.hid (And.intro hW1 hW2)
  clear hb0 hb1 hs1 hW1 hW2 h1 h2 hr hbb
  by_cases hN : N = N'
  · have t : (N == N') = true := by rw [hN]; simp
    have HN := Lib.hid hN
    clear hN
    go_enter Try.func19, Try.ntmps19
    go_wp2_with (fail)
    rw [← HW.out.1, ← HW.out.2]
    go_wp2_with (go_at_call 22; refine HS.out.mono ?_; rintro e w' ⟨rfl, n, rfl⟩)
    go_ret
    refine ⟨?_, below_drewN HR.out.2 _⟩
    rw [HR.out.1, HN.out]; simp
  · have t : (N == N') = false := by rw [beq_eq_false_iff_ne]; exact hN
    have HN := Lib.hid hN
    clear hN
    go_enter Try.func19, Try.ntmps19
    go_wp2_with (fail)
    rw [← HW.out.1, ← HW.out.2]
    go_wp2
    go_ret
    refine ⟨?_, HR.out.2⟩
    rw [HR.out.1, decide_eq_false (fun h => HN.out h.1)]; rfl
end Bu
end Go.Proofs.Ytdanhbbdkcbapaa
