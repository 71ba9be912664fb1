/- stableCmpFunc, whole. -/
import Derived.Test.YtjgakcpjphdicaaJQ6
import Derived.Test.YtjgakcpjphdicaaJP22
import Derived.Test.YtjgakcpjphdicaaK26
namespace Go.Proofs.Ytjgakcpjphdicaa
open Go.Shelf Go.RowKit Go.Lib Go.Sort Go.Proofs
namespace Of

set_option maxHeartbeats 8000000 in
set_option maxRecDepth 100000 in
theorem stable_ok {α : Type} [Inhabited α] (enc : α → Value) (lt : α → α → Bool) (hS : SWO lt) (cf : α → α → Int) (num : α → Nat) (g : Nat) (cb : Array Value) (blk cap : Nat) (d0 : Array α) (w0 : World)
    (eg : ∀ args w, (callFunc g args).run Try.prog w = .ok (.enter g args) w) (hcmp : CmpLays1 Try.prog g cb enc cf blk 0 d0.size w0) (R : Row1 enc w0 blk 0 d0) (hsz : d0.size ≤ 100000) (S : SW enc w0 blk 0 d0 w0)
    (hnum : ∀ x, x < d0.size → num d0[x]! = x) (hcf : ∀ x y : α, num y < num x → (cf x y < 0 ↔ lt x y = true)) :
    Calls Try.prog 69 #[.slice (some ⟨blk, 0, none⟩) d0.size cap, .int .i64 (d0.size : Int), .func (.func g) #[] cb] w0 fun e w' => e = .returned (.tuple #[]) ∧ ∃ d', PermIn 0 d0.size d0 d' ∧ SortedIn lt 0 d0.size d' ∧ SW enc w0 blk 0 d' w' := by
  have hins : ∀ (a b k : Nat) (d : Array α) (w : World), d.size = d0.size → SW enc w0 blk 0 d w → Bd lt num d0.size d0 (key1 k) d → a = 20 * k → a ≤ b → b ≤ d0.size → (b = 20 * k + 20 ∨ (b = d0.size ∧ d0.size ≤ 20 * k + 20)) →
      Calls Try.prog 78 #[.slice (some ⟨blk, 0, none⟩) d0.size cap, .int .i64 (a : Int), .int .i64 (b : Int), .func (.func g) #[] cb] w fun e w' => e = .returned (.tuple #[]) ∧ ∃ d', d'.size = d0.size ∧ SW enc w0 blk 0 d' w' ∧ Bd lt num d0.size d0 (key1 (k + 1)) d' := by
    intro a b k d w hd SW1 hB ha hab hb hbk
    have h := Any.insertionSortCmpFunc_s (P := Try.prog) (ρ := Try.sortI_ren) { Try.sortI with } enc cf g cb blk 0 cap a b d0 d w0 w eg hcmp R hd.symm SW1 hab (by omega) (by omega)
    have hcg := insertion_congr (ltOf cf) lt a b d (by omega) (fun i j h1 h2 h3 => by
      unfold ltOf
      rw [Bool.eq_iff_iff, decide_eq_true_eq]
      refine hcf _ _ ?_
      rw [hB.own (by omega) (by omega), hB.own (by omega) (by omega)]
      exact h2)
    rw [hcg, hd] at h
    obtain ⟨p1, p2⟩ := insertionSort_holds (lt := lt) hS d a b hab (by omega)
    refine h.mono ?_
    rintro e w' ⟨rfl, h2⟩
    refine ⟨rfl, _, p1.1.trans hd, h2, ?_⟩
    subst ha
    exact hB.step1 hb hbk (by omega) p1 p2
  have hsym : ∀ (a s k b : Nat) (d : Array α) (w : World), d.size = d0.size → SW enc w0 blk 0 d w → Bd lt num d0.size d0 (key2 s k) d → 0 < s → a = 2 * k * s → a + s < b → b ≤ d0.size → (b = (2 * k + 2) * s ∨ (b = d0.size ∧ d0.size ≤ (2 * k + 2) * s)) →
      Calls Try.prog 88 #[.slice (some ⟨blk, 0, none⟩) d0.size cap, .int .i64 (a : Int), .int .i64 ((a + s : Nat) : Int), .int .i64 (b : Int), .func (.func g) #[] cb] w fun e w' => e = .returned (.tuple #[]) ∧ ∃ d', d'.size = d0.size ∧ SW enc w0 blk 0 d' w' ∧ Bd lt num d0.size d0 (key2 s (k + 1)) d' := by
    intro a s k b d w hd SW1 hB hs0 ha hab hb hbk
    obtain ⟨s1, s2, s3⟩ := hB.seg hs0 hb (by rcases hbk with h | ⟨h, h2⟩ <;> omega)
    rw [← ha] at s1 s2 s3
    refine (symM_ok enc lt hS cf g cb blk cap d0 w0 eg hcmp R hsz (b - a) a (a + s) b d w hd SW1 (by omega) hab (by omega) (Nat.le_refl _) (s1 (by omega)) s2 (fun x y q1 q2 q3 q4 => hcf _ _ (s3 x y q1 q2 q3 q4))).mono ?_
    rintro e w' ⟨rfl, d', p1, p2, h2⟩
    refine ⟨rfl, d', p1.1.trans hd, h2, ?_⟩
    subst ha
    exact hB.step2 hs0 hb hbk (by omega) p1 p2
  have hk1 : ∀ x, key1 0 x = x := fun x => by unfold key1; rw [if_neg (Nat.not_lt_zero _)]; rfl
  have HB0 := Lib.hid (Bd.start (lt := lt) hnum (key1 0) (fun p q _ _ h => by rw [hk1, hk1] at h; exact h))
  have HH := Lib.hid (And.intro hins (And.intro hsym S))
  clear hins hsym hk1 S hcmp R
  obtain ⟨n, hn⟩ : ∃ z, z = d0.size := ⟨_, rfl⟩
  rw [← hn] at HH HB0 hsz ⊢
  have HNN := Lib.hid hn
  clear hn hnum
  go_enter Try.func69, Try.ntmps69
  go_wp2_with (fail)
  go_loopw [7, 8] (fun av bv wr => ∃ (a b k : Nat) (d : Array α), a ≤ n ∧ av = .int .i64 (a : Int) ∧ bv = .int .i64 (b : Int) ∧ Hid (a = 20 * k ∧ b = a + 20) ∧ Hid (d.size = n ∧ SW enc w0 blk 0 d wr ∧ Bd lt num n d0 (key1 k) d)) (fun av _ _ => n - (intOf av).toNat)
  case atStart => exact ⟨0, 20, 0, d0, Nat.zero_le _, rfl, rfl, ⟨rfl, rfl⟩, ⟨HNN.out.symm, HH.out.2.2, HB0.out⟩⟩
  case round =>
    obtain ⟨a, b, k, d, ha, rfl, rfl, hab, hd⟩ := hrel
    by_cases hbn : b ≤ n
    · have hi := HH.out.1 a b k d _ hd.out.1 hd.out.2.1 hd.out.2.2 hab.out.1 (by have := hab.out; omega) hbn (.inl (by have := hab.out; omega))
      have HI := Lib.hid hi
      clear hi
      have hw : IntKind.i64.wrap ((b : Int) + 20) = ((b + 20 : Nat) : Int) := by rw [IntKind.wrap_i64]; omega
      obtain ⟨b2, hb2⟩ : ∃ z, z = b + 20 := ⟨_, rfl⟩
      rw [← hb2] at hw
      have HB2 := Lib.hid hb2
      clear hb2
      go_wp2_with (go_at_call 78; refine HI.out.mono ?_; rintro e w1 ⟨rfl, d', hd'⟩; have HD := Lib.hid hd'; clear hd')
      go_roundw
      case rel => exact ⟨b, b2, k + 1, d', hbn, rfl, rfl, ⟨by have := hab.out; omega, HB2.out⟩, HD.out⟩
      case measure => have := hab.out; simp [intOf]; omega
    · have hi := HH.out.1 a n k d _ hd.out.1 hd.out.2.1 hd.out.2.2 hab.out.1 ha (Nat.le_refl _) (.inr ⟨rfl, by have := hab.out; omega⟩)
      have HI := Lib.hid hi
      clear hi
      go_wp2_with (go_at_call 78; refine HI.out.mono ?_; rintro e w1 ⟨rfl, d', hd'⟩; have HD := Lib.hid (And.intro hd'.1 (And.intro hd'.2.1 (hd'.2.2.to2 (by have := hab.out; omega)))); clear hd')
      clear HI hd
      clear hab ha hbn
      go_wp2_with (fail)
      go_loopw [6] (fun sv wr2 => ∃ (s : Nat) (d : Array α), sv = .int .i64 (s : Int) ∧ s ≤ 2 * n + 20 ∧ Hid (20 ≤ s) ∧ Hid (d.size = n ∧ SW enc w0 blk 0 d wr2 ∧ Bd lt num n d0 (key2 s 0) d)) (fun sv _ => n - (intOf sv).toNat)
      case atStart => exact ⟨20, d', rfl, by omega, Nat.le_refl _, HD.out⟩
      case round =>
        clear HD
        obtain ⟨s, d2, rfl, hsn, hs20, hd2⟩ := hrel
        by_cases hsl : s < n
        · have hs20' := hs20.out
          obtain ⟨s2, hs2⟩ : ∃ z, z = s * 2 := ⟨_, rfl⟩
          have hw1 : IntKind.i64.wrap (2 * (s : Int)) = (s2 : Int) := by rw [IntKind.wrap_i64]; omega
          have hw2 : IntKind.i64.wrap ((s : Int) * 2) = (s2 : Int) := by rw [IntKind.wrap_i64]; omega
          have hs2n : s2 ≤ 2 * n := by omega
          have hss2 : s < s2 := by omega
          have HS2 := Lib.hid hs2
          clear hs2 hs20'
          go_wp2_with (fail)
          go_loopw [7, 8] (fun av bv wr3 => ∃ (a b k : Nat) (d : Array α), a ≤ n ∧ av = .int .i64 (a : Int) ∧ bv = .int .i64 (b : Int) ∧ Hid (b = a + s2 ∧ a = 2 * k * s ∧ b = (2 * k + 2) * s) ∧ Hid (d.size = n ∧ SW enc w0 blk 0 d wr3 ∧ Bd lt num n d0 (key2 s k) d)) (fun av _ _ => n - (intOf av).toNat)
          case atStart => exact ⟨0, s2, 0, d2, Nat.zero_le _, rfl, rfl, ⟨by omega, by simp, by have := HS2.out; omega⟩, hd2⟩
          case round =>
            clear hd2
            obtain ⟨a, b, k, d, ha, rfl, rfl, hab, hd⟩ := hrel
            have hb0 := hab.out.1
            obtain ⟨m1, hm1⟩ : ∃ z, z = a + s := ⟨_, rfl⟩
            have hw3 : IntKind.i64.wrap ((a : Int) + (s : Int)) = (m1 : Int) := by rw [IntKind.wrap_i64]; omega
            by_cases hbn : b ≤ n
            · have hi := HH.out.2.1 a s k b d _ hd.out.1 hd.out.2.1 hd.out.2.2 (by have := hs20.out; omega) hab.out.2.1 (by have := HS2.out; have := hs20.out; omega) hbn (.inl hab.out.2.2)
              rw [← hm1] at hi
              obtain ⟨b2, hb2⟩ : ∃ z, z = b + s2 := ⟨_, rfl⟩
              have hw4 : IntKind.i64.wrap ((b : Int) + (s2 : Int)) = (b2 : Int) := by rw [IntKind.wrap_i64]; omega
              have HI := Lib.hid hi
              have HB2 := Lib.hid hb2
              have HM1 := Lib.hid (And.intro hm1 hb0)
              clear hi hb2 hm1 hb0
              go_wp2_with (go_at_call 88; refine HI.out.mono ?_; rintro e w4 ⟨rfl, d', hd'⟩; have HD := Lib.hid hd'; clear hd')
              go_roundw
              case rel => exact ⟨b, b2, k + 1, d', hbn, rfl, rfl, ⟨HB2.out, by rw [hab.out.2.2]; congr 1, by rw [HB2.out, hab.out.2.2, HS2.out, Nat.mul_comm s 2, ← Nat.add_mul]; congr 1⟩, HD.out⟩
              case measure => have := HM1.out; have := HS2.out; have := hs20.out; simp [intOf]; omega
            · by_cases hmn : m1 < n
              · have hi := HH.out.2.1 a s k n d _ hd.out.1 hd.out.2.1 hd.out.2.2 (by have := hs20.out; omega) hab.out.2.1 (by omega) (Nat.le_refl _) (.inr ⟨rfl, by rw [← hab.out.2.2]; omega⟩)
                rw [← hm1] at hi
                have HI := Lib.hid hi
                have HM1 := Lib.hid (And.intro hm1 hb0)
                clear hi hm1 hb0
                go_wp2_with (go_at_call 88; refine HI.out.mono ?_; rintro e w4 ⟨rfl, d', hd'⟩; have HD := Lib.hid hd'; clear hd')
                go_roundw
                case rel =>
                  have hnx := HD.out.2.2.next (by have := hs20.out; omega) (by have := hab.out.2.2; rw [show 2 * (k + 1) = 2 * k + 2 by omega, ← this]; omega)
                  rw [← HS2.out] at hnx
                  exact ⟨s2, d', rfl, by omega, by have := hs20.out; have := HS2.out; show 20 ≤ s2; omega, ⟨HD.out.1, HD.out.2.1, hnx⟩⟩
                case measure => simp [intOf]; omega
              · have hsg := hd.out.2.2.seg1 (by have := hs20.out; omega) (by have := hab.out.2.1; omega)
                have hst := hd.out.2.2.step2 (b := n) (by have := hs20.out; omega) (Nat.le_refl _) (.inr ⟨rfl, by rw [← hab.out.2.2]; omega⟩) (by have := hd.out.1; omega) (permIn_refl d _ _) hsg
                have hnx := hst.next (by have := hs20.out; omega) (by have := hab.out.2.2; rw [show 2 * (k + 1) = 2 * k + 2 by omega, ← this]; omega)
                rw [← HS2.out] at hnx
                have HNX := Lib.hid hnx
                have HM1 := Lib.hid (And.intro hm1 hb0)
                clear hsg hst hnx hm1 hb0
                go_wp2_with (fail)
                go_roundw
                case rel => exact ⟨s2, d, rfl, by omega, by have := hs20.out; have := HS2.out; show 20 ≤ s2; omega, ⟨hd.out.1, hd.out.2.1, HNX.out⟩⟩
                case measure => simp [intOf]; omega
        · go_wp2_with (fail)
          go_end0
          exact ⟨rfl, d2, hd2.out.2.2.perm, hd2.out.2.2.done (by omega), hd2.out.2.1⟩
end Of
end Go.Proofs.Ytjgakcpjphdicaa
