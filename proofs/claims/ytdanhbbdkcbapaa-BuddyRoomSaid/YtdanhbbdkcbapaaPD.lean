/- Load. -/
import Derived.Test.YtdanhbbdkcbapaaPC
import Derived.Deep.RegionWith
import Derived.StillTailTactics
import Derived.Outline
namespace Go.Proofs.Ytdanhbbdkcbapaa
open Go.RowKit
namespace Bu

/-- Where the last block ends. -/
def nextB : List Blk → Nat
  | [] => 0
  | [x] => x.1 + 2 ^ x.2
  | _ :: y :: l => nextB (y :: l)
theorem nextB_add : ∀ (L : List Blk) (x : Blk), nextB (L ++ [x]) = x.1 + 2 ^ x.2 := by
  intro L
  induction L with
  | nil => intro x; rfl
  | cons y L ih =>
    intro x
    cases L with
    | nil => rfl
    | cons z L => exact ih x
theorem asc_snoc {L : List Blk} {y : Blk} (h : (L ++ [y]).Pairwise fun a b => a.1 + 2 ^ a.2 ≤ b.1) : ∀ x ∈ L, x.1 + 2 ^ x.2 ≤ y.1 := fun x hx => (List.pairwise_append.1 h).2.2 x hx y (List.mem_singleton.2 rfl)
theorem nextB_le {L : List Blk} (h : L.Pairwise fun a b => a.1 + 2 ^ a.2 ≤ b.1) : ∀ x ∈ L, x.1 + 2 ^ x.2 ≤ nextB L := by
  intro x hx
  rcases List.eq_nil_or_concat L with rfl | ⟨M, y, rfl⟩
  · cases hx
  · rw [List.concat_eq_append] at *
    rw [nextB_add]
    rcases List.mem_append.1 hx with hx | hx
    · have := asc_snoc h x hx; have := pow_pos2 y.2; omega
    · rw [List.mem_singleton] at hx; subst hx; exact Nat.le_refl _

theorem putB_end : ∀ {L : List Blk} {x : Blk}, (∀ y ∈ L, y.1 ≤ x.1) → putB L x = L ++ [x] := by
  intro L
  induction L with
  | nil => intro x _; rfl
  | cons y L ih =>
    intro x h
    rw [putB, if_neg (by have := h y (List.mem_cons_self ..); omega), ih fun z hz => h z (List.mem_cons_of_mem _ hz)]
    rfl

/-- A block is free behind a list just if it begins behind its end. -/
theorem free_next {N : Nat} {L : List Blk} {x : Blk} (hS : St N L) (hx : InB N x) (hlast : ∀ y ∈ L, y.1 < x.1) : freeB L x.1 x.2 = true ↔ nextB L ≤ x.1 := by
  rw [freeB_iff hS.inb hx.2.1]
  constructor
  · intro hf
    rcases List.eq_nil_or_concat L with rfl | ⟨M, y, rfl⟩
    · exact Nat.zero_le _
    · rw [List.concat_eq_append] at *
      rw [nextB_add]
      have hy := hlast y (by simp)
      rcases disj_of hS.inb hx hf (y := y) (by simp) with h | h
      · have := pow_pos2 x.2; omega
      · exact h
  · intro hn q hq hu
    rw [used_LG hS.inb] at hu
    unfold anyP hasP at hu
    obtain ⟨y, hy, h2⟩ := List.any_eq_true.1 hu
    rw [decide_eq_true_eq] at h2
    have := nextB_le hS.asc y hy
    have := (within hx.2.1).2 hq
    omega

/-- What Load returns. -/
def LoadL (w : World) (N : Int) (L : List (Int × Int)) (e : Ending) (w' : World) : Prop :=
  Below w.heap.size w w' ∧
  ((checkV N L ≠ 0 ∧ e = .returned (.tuple #[.pointer none, .int .i64 (checkV N L)])) ∨
   (checkV N L = 0 ∧ ∃ (b M : Nat) (B : List Blk), N = (M : Int) ∧ L = B.map zb ∧ e = .returned (.tuple #[.pointer (some ⟨b, 0, none⟩), .int .i64 0]) ∧ BuL w' b M B ∧ w.heap.size ≤ b))

theorem chkZ_next {N : Nat} {pre : List Blk} {x : Int × Int} {l : List (Int × Int)} :
    chkZ N (nextB pre : Int) (x :: l) = (inZ N x.1 x.2 && decide ((nextB pre : Int) ≤ x.1) && chkZ N (x.1 + ((2 ^ x.2.toNat : Nat) : Int)) l) := by rw [chkZ]

theorem grow_below {b : Nat} {W w' : World} (h : Grow1 b W w') (hb : b ≤ W.heap.size) : Below b W w' := ⟨h.os, h.tape, h.output, h.size, fun k hk => h.block k (by omega) (by omega)⟩
theorem zb_inj {x y : Blk} (h : zb x = zb y) : x = y := by
  have h1 : ((x.1 : Nat) : Int) = (y.1 : Int) := congrArg Prod.fst h
  have h2 : ((x.2 : Nat) : Int) = (y.2 : Int) := congrArg Prod.snd h
  exact Prod.ext (by omega) (by omega)

theorem at_yes {W : World} {b M : Nat} {pre : List Blk} {p n : Int} (h : BuL W b M pre) (hlast : ∀ y ∈ pre, (y.1 : Int) < p) (hok : inZ M p n = true ∧ (nextB pre : Int) ≤ p) :
    ∃ x : Blk, (p, n) = zb x ∧ Calls Try.prog 25 #[.pointer (some ⟨b, 0, none⟩), .int .i64 p, .int .i64 n] W fun e w' => e = .returned (.int .i64 0) ∧ Grow1 b W w' ∧ BuL w' b M (pre ++ [x]) := by
  obtain ⟨q, m, rfl, rfl, hin⟩ := inZ_true hok.1
  refine ⟨(q, m), rfl, ?_⟩
  have hl : ∀ y ∈ pre, y.1 < q := fun y hy => by have := hlast y hy; omega
  have hf := (free_next h.2 hin hl).2 (by have := hok.2; show nextB pre ≤ q; omega)
  refine (atL_ok W b M pre (q, m) h hin).mono ?_
  rintro e w' ⟨hG, ⟨_, he, hB⟩ | ⟨hf2, _⟩⟩
  · exact ⟨he, hG, by rw [putB_end fun y hy => Nat.le_of_lt (hl y hy)] at hB; exact hB⟩
  · rw [hf] at hf2; cases hf2

theorem at_no {W : World} {b M : Nat} {pre : List Blk} {p n : Int} (h : BuL W b M pre) (hlast : ∀ y ∈ pre, (y.1 : Int) < p) (hok : ¬ (inZ M p n = true ∧ (nextB pre : Int) ≤ p)) :
    ∃ r : Int, (r == 0) = false ∧ ∀ W' : World, W'.heap[b]? = W.heap[b]? → Calls Try.prog 25 #[.pointer (some ⟨b, 0, none⟩), .int .i64 p, .int .i64 n] W' fun e w' => e = .returned (.int .i64 r) ∧ Grow1 b W' w' := by
  cases e1 : inZ M p n with
  | false =>
    refine ⟨7, by decide, fun W' hg => ?_⟩
    refine (atL_bad W' b M pre p n (h.keep hg) e1).mono ?_
    rintro e w' ⟨he, rfl⟩
    exact ⟨he, Grow1.refl _ _⟩
  | true =>
    obtain ⟨q, m, rfl, rfl, hin⟩ := inZ_true e1
    have hl : ∀ y ∈ pre, y.1 < q := fun y hy => by have := hlast y hy; omega
    have hf := free_next h.2 hin hl
    refine ⟨8, by decide, fun W' hg => ?_⟩
    refine (atL_ok W' b M pre (q, m) (h.keep hg) hin).mono ?_
    rintro e w' ⟨hG, ⟨hf2, _⟩ | ⟨_, he, _⟩⟩
    · exact absurd ⟨e1, by have := hf.1 hf2; have : nextB pre ≤ q := this; omega⟩ hok
    · exact ⟨he, hG⟩

theorem ite_skip {c : Prop} [Decidable c] {A B : Prop} (hc : ¬ c) (h : B) : if c then A else B := by rw [if_neg hc]; exact h

attribute [local irreducible] wpStill
set_option maxRecDepth 100000 in
set_option maxHeartbeats 4000000 in
theorem load_ok (w : World) (N : Int) (A : Option Addr) (c : Nat) (L : List (Int × Int)) (h : ZAt w A c L) :
    Calls Try.prog 12 #[sv N A L.length c] w fun e w' => LoadL w N L e w' := by
  have hcap := h.2.1
  have hlc := h.1
  unfold maxLen at hcap
  have hg1 := blk_new w (.int .i64 N) (.slice A L.length c) 24
  have hb0 := below_box w (.cells #[.int .i64 N, .slice A L.length c] 24)
  obtain ⟨W1, hW1⟩ : ∃ W1, W1 = w.alloc (.cells #[.int .i64 N, .slice A L.length c] 24) := ⟨_, rfl⟩
  rw [← hW1] at hg1 hb0
  have hs1 : W1.heap.size = w.heap.size + 1 := by rw [hW1]; simp
  have hz := two_cells hg1
  obtain ⟨b1, b2, _, _⟩ := hz
  by_cases hN : 0 ≤ N ∧ N ≤ 10
  · obtain ⟨M, rfl⟩ := Int.eq_ofNat_of_zero_le hN.1
    have hM : M ≤ 10 := by omega
    have hck : checkV (M : Int) L = if chkZ M 0 L = true then 0 else 6 := by unfold checkV; rw [if_pos hN, Int.toNat_natCast]
    have hnew := new_ok W1 M hM
    have HN := Lib.hid hnew
    have hsem := sem_new hM
    have HX := Lib.hid (And.intro hb0 (And.intro hs1 (And.intro hg1 (And.intro hck (And.intro h hsem)))))
    have HW := Lib.hid hW1
    clear hb0 hs1 hg1 hW1 hnew hsem h hN hck
    go_enter Try.func12, Try.ntmps12
    go_wp2_with (fail)
    rw [← HW.out]
    go_wp2_with (go_at_call 26; refine HN.out.mono ?_; rintro e W2 ⟨rfl, hB2, hb2⟩; have c2 := cell_keep2 hb2 b2; have HB2 := Lib.hid (And.intro hB2 hb2); clear hB2 hb2)
    have hb2 := HB2.out.2
    have hs2 := hb2.size
    have hbl := HB2.out.1.lt
    obtain ⟨b, hbn⟩ : ∃ b, b = W1.heap.size := ⟨_, rfl⟩
    rw [← hbn]
    have hst0 : BuL W2 b M [] := by rw [hbn]; exact ⟨⟨_, _, HB2.out.1, HX.out.2.2.2.2.2⟩, st_nil hM⟩
    have HS0 := Lib.hid (And.intro hst0 (And.intro hbn hb2))
    clear hst0 hbn hb2
    go_loopw [20] (fun i wr => ∃ (k : Nat) (pre : List Blk), k ≤ L.length ∧ i = .int .i64 (k : Int) ∧ L.take k = pre.map zb ∧ BuL wr b M pre ∧ Below b W2 wr ∧ chkZ M 0 L = chkZ M (nextB pre : Int) (L.drop k)) (fun i _ => L.length - (intOf i).toNat)
    case atStart => exact ⟨0, [], Nat.zero_le _, rfl, rfl, HS0.out.1, Below.refl _ _, rfl⟩
    case round =>
      obtain ⟨k, pre, hk, rfl, htk, hBw, hbw, hck⟩ := hrel
      have hbW1 : w.heap.size + 1 = b := by have := HX.out.2.1; have := HS0.out.2.1; omega
      have d1 := (hbw.cell (p := ⟨w.heap.size, 0, none⟩) (by show w.heap.size < b; omega)).trans ((cell_keep2 HS0.out.2.2 b1))
      have d2 := (hbw.cell (p := ⟨w.heap.size, 1, none⟩) (by show w.heap.size < b; omega)).trans c2
      have hW1s := HX.out.2.1
      have hZ : ZAt wr A c L := HX.out.2.2.2.2.1.keep (by have := HX.out.1.size; have := HS0.out.2.2.size; have := hbw.size; omega) fun g _ hgl => (hbw.block g (by omega)).trans ((HS0.out.2.2.block g (by omega)).trans (HX.out.1.block g hgl))
      have hbl2 := hBw.lt
      by_cases hlt : k < L.length
      · obtain ⟨y, hy⟩ : ∃ y, L[k]? = some y := ⟨_, List.getElem?_eq_getElem hlt⟩
        have hd : L.drop k = y :: L.drop (k + 1) := by
          rw [List.drop_eq_getElem_cons hlt]
          congr 1
          rw [List.getElem?_eq_getElem hlt] at hy
          injection hy
        obtain ⟨g, o, hA, hg, f1, f2⟩ := hZ.2.2 k y hy
        obtain ⟨p, n⟩ := y
        dsimp only at f1 f2
        have e0 : (0 : Int) ≤ (k : Int) := by omega
        have e1 : (k : Int) < (L.length : Int) := by omega
        have hkk : IntKind.i64.wrap ((k : Int) + 1) = ((k + 1 : Nat) : Int) := by rw [IntWalk.i64_in _ (by omega)]; rfl
        have hwl : w.heap.size < wr.heap.size := by omega
        rcases List.eq_nil_or_concat pre with hnil | ⟨pre0, yl, hpre⟩
        · have hk0 : k = 0 := by
            have := congrArg List.length htk
            rw [hnil, List.length_take, Nat.min_eq_left hk] at this
            simpa using this
          have hlast : ∀ y ∈ pre, (y.1 : Int) < p := fun y hy => by rw [hnil] at hy; cases hy
          subst hA
          subst hk0
          have hz0 : ((0 : Nat) : Int) = 0 := rfl
          simp only [hz0] at *
          simp only [Nat.zero_mul, Nat.add_zero] at f1 f2
          clear hz0
          by_cases hok : inZ M p n = true ∧ (nextB pre : Int) ≤ p
          · obtain ⟨x, hx, hcall0⟩ := at_yes (hBw) hlast hok
            have hcall : ∀ W' : World, (∀ g : Nat, W'.heap[g]? = (wr.alloc (.cells #[.int .i64 p, .int .i64 n] 39)).heap[g]?) → Calls Try.prog 25 #[.pointer (some ⟨b, 0, none⟩), .int .i64 p, .int .i64 n] W' fun e w' => e = .returned (.int .i64 0) ∧ Grow1 b W' w' ∧ BuL w' b M (pre ++ [x]) := fun W' hg' => by
              obtain ⟨x', hx', hc⟩ := at_yes (W := W') (hBw.keep ((hg' b).trans (alloc_old _ _ _ hbl2))) hlast hok
              rw [zb_inj (hx.symm.trans hx')]; exact hc
            clear hcall0 hnil
            have hck2 : chkZ M 0 L = chkZ M (nextB (pre ++ [x]) : Int) (L.drop (0 + 1)) := by
              rw [hck, hd, chkZ_next, hok.1, decide_eq_true hok.2, nextB_add]
              have : (p, n) = zb x := hx
              injection this with e1 e2
              rw [e1, e2, Int.toNat_natCast]
              simp
            have htk2 : L.take (0 + 1) = (pre ++ [x]).map zb := by rw [List.take_succ_eq_append_getElem hlt, htk, List.map_append, List.map_singleton, ← hx]; rw [List.getElem?_eq_getElem hlt] at hy; injection hy with hy; rw [hy]
            have hbx : Below b W2 (wr.alloc (.cells #[.int .i64 p, .int .i64 n] 39)) := hbw.alloc (by omega) _
            have HF := Lib.hid (And.intro hck2 (And.intro htk2 hbx))
            have HC := Lib.hid hcall
            clear hck2 hck hd hbw hZ htk hBw htk2 hbx hcall hy hok hx hlast
            go_wp2_with (fail)
            refine wp_region_still_tail 20 (by kernel_rfl) (by kernel_rfl) ?_
            simp only [List.take_succ_cons, List.take_zero, List.drop_succ_cons, List.drop_zero]
            change wpStill _ _ (World.drew _) (fun a' => wpList _ _ _ _ a' (World.drew _)) _ _
            iterate 3 still_step
            iterate 10 (refine wpStill_step (fun K hK => ?_); refine ite_skip (fun h => absurd (show false = true from h) Bool.false_ne_true) ?_; go_simp; refine hK _ ?_; clear hK K)
            iterate 7 still_step
            refine wpStill_nil ?_
            go_wp2_with (go_at_call 25; refine (HC.out (World.drew (wr.alloc (.cells #[.int .i64 p, .int .i64 n] 39))) (fun _ => rfl)).mono ?_; rintro e w6 ⟨rfl, hg6, hB6⟩; have H6 := Lib.hid (And.intro hg6 hB6); clear hg6 hB6)
            all_goals
              go_wp2_with (fail)
              go_roundw
              case rel =>
                refine ⟨0 + 1, pre ++ [x], by omega, by go_num, HF.out.2.1, H6.out.2, ?_, HF.out.1⟩
                exact HF.out.2.2.trans (grow_below ⟨H6.out.1.os, H6.out.1.tape, H6.out.1.output, H6.out.1.size, H6.out.1.block⟩ (by show b ≤ (wr.alloc _).heap.size; simp; omega))
              case measure => simp [intOf]; omega

          · obtain ⟨r, hr, hcall0⟩ := at_no hBw hlast hok
            have hcall : ∀ W' : World, (∀ g : Nat, W'.heap[g]? = (wr.alloc (.cells #[.int .i64 p, .int .i64 n] 39)).heap[g]?) → Calls Try.prog 25 #[.pointer (some ⟨b, 0, none⟩), .int .i64 p, .int .i64 n] W' fun e w' => e = .returned (.int .i64 r) ∧ Grow1 b W' w' := fun W' hg' => hcall0 W' ((hg' b).trans (alloc_old _ _ _ hbl2))
            clear hcall0 hnil
            have hck2 : chkZ M 0 L = false := by
              rw [hck, hd, chkZ_next]
              cases e1 : inZ M p n with
              | false => rfl
              | true => rw [decide_eq_false (fun e2 => hok ⟨e1, e2⟩)]; rfl
            have hbx : Below b W2 (wr.alloc (.cells #[.int .i64 p, .int .i64 n] 39)) := hbw.alloc (by omega) _
            have HF := Lib.hid (And.intro hck2 hbx)
            have HC := Lib.hid hcall
            clear hck2 hck hd hbw hZ htk hBw hbx hcall hy hok hlast
            go_wp2_with (fail)
            refine wp_region_still_tail 20 (by kernel_rfl) (by kernel_rfl) ?_
            simp only [List.take_succ_cons, List.take_zero, List.drop_succ_cons, List.drop_zero]
            change wpStill _ _ (World.drew _) (fun a' => wpList _ _ _ _ a' (World.drew _)) _ _
            iterate 3 still_step
            iterate 10 (refine wpStill_step (fun K hK => ?_); refine ite_skip (fun h => absurd (show false = true from h) Bool.false_ne_true) ?_; go_simp; refine hK _ ?_; clear hK K)
            iterate 7 still_step
            refine wpStill_nil ?_
            go_wp2_with (go_at_call 25; refine (HC.out (World.drew (wr.alloc (.cells #[.int .i64 p, .int .i64 n] 39))) (fun _ => rfl)).mono ?_; rintro e w6 ⟨rfl, hg6⟩; have H6 := Lib.hid hg6; clear hg6)
            all_goals
              go_wp2_with (fail)
              go_ret2
              refine ⟨HX.out.1.trans (Below.mono (HS0.out.2.2.trans (Below.mono (HF.out.2.trans (grow_below ⟨H6.out.os, H6.out.tape, H6.out.output, H6.out.size, H6.out.block⟩ (by show b ≤ (wr.alloc _).heap.size; simp; omega))) (by have := HS0.out.2.1; omega))) (by have := HX.out.2.1; omega)), .inl ⟨?_, ?_⟩⟩
              · rw [HX.out.2.2.2.1, HF.out.1]; decide
              · rw [HX.out.2.2.2.1, HF.out.1]; rfl

        · rw [List.concat_eq_append] at hpre
          obtain ⟨j, hkj⟩ : ∃ j, k = j + 1 := ⟨pre0.length, by
            have := congrArg List.length htk
            rw [hpre, List.length_take, Nat.min_eq_left hk] at this
            simpa using this⟩
          have hyl : L[j]? = some (zb yl) := by
            have h1 : (L.take k)[j]? = L[j]? := List.getElem?_take_of_lt (by omega)
            have hj : j = pre0.length := by
              have := congrArg List.length htk
              rw [hpre, List.length_take, Nat.min_eq_left hk] at this
              simp at this
              omega
            rw [← h1, htk, hpre, hj]; simp
          obtain ⟨g', o', hA', _, f3, _⟩ := hZ.2.2 j (zb yl) hyl
          obtain ⟨rfl, rfl⟩ : g = g' ∧ o = o' := by rw [hA] at hA'; injection hA' with h1; injection h1 with h2 h3; exact ⟨h2, h3⟩
          replace f3 : wr.cell? ⟨g, o + j * 2, none⟩ = some (.int .i64 (yl.1 : Int)) := f3
          have t0 : (0 : Int) < (k : Int) := by omega
          have t1 : 0 < k := by omega
          have e2 : (0 : Int) ≤ (j : Int) := by omega
          have e3 : (j : Int) < (L.length : Int) := by omega
          have hsub : IntKind.i64.wrap ((k : Int) - 1) = (j : Int) := by rw [IntWalk.i64_in _ (by omega)]; omega
          have hsub2 : (k : Int) - 1 = (j : Int) := by omega
          have hsub3 : IntKind.i64.wrap (j : Int) = (j : Int) := IntWalk.i64_in _ (by omega)
          have hsub4 : wrap64 ((k : Int) - 1) = (j : Int) := by rw [← w64]; exact hsub
          subst hA
          clear hA' hyl hkj
          by_cases hpy : p ≤ (yl.1 : Int)
          · have hck2 : chkZ M 0 L = false := by
              rw [hck, hd, chkZ_next, decide_eq_false (by rw [hpre, nextB_add]; have := pow_pos2 yl.2; omega)]
              cases inZ M p n <;> rfl
            have hbx : Below b W2 (wr.alloc (.cells #[.int .i64 p, .int .i64 n] 39)) := hbw.alloc (by omega) _
            have HF := Lib.hid (And.intro hck2 hbx)
            clear hck2 hck hd hbw hZ htk hBw hbx hy hpre
            go_wp2_with (fail)
            go_quiet (fail)
            go_wp2_with (fail)
            go_ret2
            refine ⟨HX.out.1.trans (Below.mono (HS0.out.2.2.trans (Below.mono (below_drewN HF.out.2 _) (by have := HS0.out.2.1; omega))) (by have := HX.out.2.1; omega)), .inl ⟨?_, ?_⟩⟩
            · rw [HX.out.2.2.2.1, HF.out.1]; decide
            · rw [HX.out.2.2.2.1, HF.out.1]; rfl

          · have hlast : ∀ y ∈ pre, (y.1 : Int) < p := fun y hy => by
              rw [hpre] at hy
              rcases List.mem_append.1 hy with hy | hy
              · have := asc_snoc (by rw [← hpre]; exact hBw.2.asc) y hy
                have := pow_pos2 y.2
                omega
              · rw [List.mem_singleton] at hy; subst hy; omega
            have t5 : decide (p ≤ (yl.1 : Int)) = false := by simp; omega
            clear hpy
            by_cases hok : inZ M p n = true ∧ (nextB pre : Int) ≤ p
            · obtain ⟨x, hx, hcall0⟩ := at_yes (hBw) hlast hok
              have hcall : ∀ W' : World, (∀ g : Nat, W'.heap[g]? = (wr.alloc (.cells #[.int .i64 p, .int .i64 n] 39)).heap[g]?) → Calls Try.prog 25 #[.pointer (some ⟨b, 0, none⟩), .int .i64 p, .int .i64 n] W' fun e w' => e = .returned (.int .i64 0) ∧ Grow1 b W' w' ∧ BuL w' b M (pre ++ [x]) := fun W' hg' => by
                obtain ⟨x', hx', hc⟩ := at_yes (W := W') (hBw.keep ((hg' b).trans (alloc_old _ _ _ hbl2))) hlast hok
                rw [zb_inj (hx.symm.trans hx')]; exact hc
              clear hcall0 hpre
              have hck2 : chkZ M 0 L = chkZ M (nextB (pre ++ [x]) : Int) (L.drop (k + 1)) := by
                rw [hck, hd, chkZ_next, hok.1, decide_eq_true hok.2, nextB_add]
                have : (p, n) = zb x := hx
                injection this with e1 e2
                rw [e1, e2, Int.toNat_natCast]
                simp
              have htk2 : L.take (k + 1) = (pre ++ [x]).map zb := by rw [List.take_succ_eq_append_getElem hlt, htk, List.map_append, List.map_singleton, ← hx]; rw [List.getElem?_eq_getElem hlt] at hy; injection hy with hy; rw [hy]
              have hbx : Below b W2 (wr.alloc (.cells #[.int .i64 p, .int .i64 n] 39)) := hbw.alloc (by omega) _
              have HF := Lib.hid (And.intro hck2 (And.intro htk2 hbx))
              have HC := Lib.hid hcall
              clear hck2 hck hd hbw hZ htk hBw htk2 hbx hcall hy hok hx hlast
              go_wp2_with (fail)
              refine wp_region_still_tail 20 (by kernel_rfl) (by kernel_rfl) ?_
              simp only [List.take_succ_cons, List.take_zero, List.drop_succ_cons, List.drop_zero]
              change wpStill _ _ (World.drew _) (fun a' => wpList _ _ _ _ a' (World.drew _)) _ _
              iterate 20 still_step
              refine wpStill_nil ?_
              go_wp2_with (go_at_call 25; refine (HC.out (World.drew (wr.alloc (.cells #[.int .i64 p, .int .i64 n] 39))) (fun _ => rfl)).mono ?_; rintro e w6 ⟨rfl, hg6, hB6⟩; have H6 := Lib.hid (And.intro hg6 hB6); clear hg6 hB6)
              all_goals
                go_wp2_with (fail)
                go_roundw
                case rel =>
                  refine ⟨k + 1, pre ++ [x], by omega, by go_num, HF.out.2.1, H6.out.2, ?_, HF.out.1⟩
                  exact HF.out.2.2.trans (grow_below ⟨H6.out.1.os, H6.out.1.tape, H6.out.1.output, H6.out.1.size, H6.out.1.block⟩ (by show b ≤ (wr.alloc _).heap.size; simp; omega))
                case measure => simp [intOf]; omega

            · obtain ⟨r, hr, hcall0⟩ := at_no hBw hlast hok
              have hcall : ∀ W' : World, (∀ g : Nat, W'.heap[g]? = (wr.alloc (.cells #[.int .i64 p, .int .i64 n] 39)).heap[g]?) → Calls Try.prog 25 #[.pointer (some ⟨b, 0, none⟩), .int .i64 p, .int .i64 n] W' fun e w' => e = .returned (.int .i64 r) ∧ Grow1 b W' w' := fun W' hg' => hcall0 W' ((hg' b).trans (alloc_old _ _ _ hbl2))
              clear hcall0 hpre
              have hck2 : chkZ M 0 L = false := by
                rw [hck, hd, chkZ_next]
                cases e1 : inZ M p n with
                | false => rfl
                | true => rw [decide_eq_false (fun e2 => hok ⟨e1, e2⟩)]; rfl
              have hbx : Below b W2 (wr.alloc (.cells #[.int .i64 p, .int .i64 n] 39)) := hbw.alloc (by omega) _
              have HF := Lib.hid (And.intro hck2 hbx)
              have HC := Lib.hid hcall
              clear hck2 hck hd hbw hZ htk hBw hbx hcall hy hok hlast
              go_wp2_with (fail)
              refine wp_region_still_tail 20 (by kernel_rfl) (by kernel_rfl) ?_
              simp only [List.take_succ_cons, List.take_zero, List.drop_succ_cons, List.drop_zero]
              change wpStill _ _ (World.drew _) (fun a' => wpList _ _ _ _ a' (World.drew _)) _ _
              iterate 20 still_step
              refine wpStill_nil ?_
              go_wp2_with (go_at_call 25; refine (HC.out (World.drew (wr.alloc (.cells #[.int .i64 p, .int .i64 n] 39))) (fun _ => rfl)).mono ?_; rintro e w6 ⟨rfl, hg6⟩; have H6 := Lib.hid hg6; clear hg6)
              all_goals
                go_wp2_with (fail)
                go_ret2
                refine ⟨HX.out.1.trans (Below.mono (HS0.out.2.2.trans (Below.mono (HF.out.2.trans (grow_below ⟨H6.out.os, H6.out.tape, H6.out.output, H6.out.size, H6.out.block⟩ (by show b ≤ (wr.alloc _).heap.size; simp; omega))) (by have := HS0.out.2.1; omega))) (by have := HX.out.2.1; omega)), .inl ⟨?_, ?_⟩⟩
                · rw [HX.out.2.2.2.1, HF.out.1]; decide
                · rw [HX.out.2.2.2.1, HF.out.1]; rfl

      · obtain rfl : k = L.length := by omega
        rw [List.drop_length, chkZ] at hck
        rw [List.take_length] at htk
        have HF := Lib.hid (And.intro hck (And.intro htk (And.intro hBw hbw)))
        clear hck htk hBw hbw hZ
        have t0 : ¬ ((L.length : Nat) : Int) < (L.length : Int) := by omega
        go_wp2_with (fail)
        go_ret2
        refine ⟨HX.out.1.trans (Below.mono (HS0.out.2.2.trans (Below.mono HF.out.2.2.2 (by have := HS0.out.2.1; omega))) (by have := HX.out.2.1; omega)), .inr ⟨?_, b, M, pre, rfl, HF.out.2.1, rfl, HF.out.2.2.1, by omega⟩⟩
        rw [HX.out.2.2.2.1, HF.out.1]; rfl
  · have hck : checkV N L = 7 := if_neg hN
    have HN := Lib.hid (new_bad W1 N (by omega))
    have HX := Lib.hid (And.intro hb0 hck)
    have HW := Lib.hid hW1
    clear hb0 hs1 hg1 hW1 h hN hck
    go_enter Try.func12, Try.ntmps12
    go_wp2_with (fail)
    rw [← HW.out]
    go_wp2_with (go_at_call 26; refine HN.out.mono ?_; rintro e W2 ⟨rfl, rfl⟩)
    go_ret2
    exact ⟨HX.out.1, .inl ⟨by rw [HX.out.2]; decide, by rw [HX.out.2]; rfl⟩⟩
end Bu
end Go.Proofs.Ytdanhbbdkcbapaa

