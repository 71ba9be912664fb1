/- The pages of a set, one after the other. -/
import Derived.Test.YtdanhbbdkcbapaaSA
namespace Go.Proofs.Ytdanhbbdkcbapaa
open Go.RowKit Go.Shelf
namespace Bu
attribute [local go_sem] Oper.semAt_some

theorem all_ok (w : World) (b o : Nat) :
    Calls Try.prog 31 #[.pointer (some ⟨b, o, none⟩)] w fun e w' => e = .returned (.func (.func 48) #[] #[.pointer (some ⟨w.heap.size, 0, none⟩)]) ∧
      w' = w.alloc (.cells #[.pointer (some ⟨b, o, none⟩)] 89) := by
  go_enter Try.func31, Try.ntmps31
  go_wp2
  go_ret
  exact ⟨rfl, rfl⟩

/-- What is left of the pages when a loop over them ends early. -/
def Upto (S : Nat → Bool) (pre : List Nat) : Prop := ∃ p, p < 1024 ∧ S p = true ∧ pre = members S (p + 1)

set_option maxRecDepth 100000 in
set_option maxHeartbeats 2000000 in
theorem allseq (n : Nat) (hn : 2 ≤ n) (b1 b o : Nat) (S : Nat → Bool) :
    SeqZ Fence.wide n Try.prog 48 #[.pointer (some ⟨b1, 0, none⟩)] (fun a : Nat => #[.int .i64 (a : Int)]) (fun W => b1 < W.heap.size ∧ W.cell? ⟨b1, 0, none⟩ = some (.pointer (some ⟨b, o, none⟩))) (fun W => SetAt W b o S)
      (fun k => k = b1) (fun xs => xs = members S 1024) (Upto S) (fun pre x => x < 1024 ∧ S x = true ∧ pre = members S x) := by
  intro l J Jx own0 W ⟨hbs, hD⟩ hR hE hf hFJ hFJx hY h0
  have HY := Lib.hid hY
  have HE := Lib.hid hE
  have hR1 := hR b1 rfl
  have HOR := Lib.hid hR1
  clear hY hR hE hR1
  have hfn : Fence.wide.fn 35 := trivial
  have hdp : Fence.wide.depth.isSome = false := rfl
  have hn1 : 1 ≤ n := by omega
  refine callsIn_of_wp Try.func48 rfl trivial ?_ rfl
  simp only [Try.ntmps48, List.size_toArray, List.length_cons, List.length_nil, Nat.reduceAdd, Nat.reduceSub, Array.replicate_succ, Array.replicate_zero, List.push_toArray, List.append_toArray, List.nil_append, List.cons_append]
  gi_wp2
  gi_loopw [4] (fun i wr => ∃ (k : Nat) (own : Ow), k ≤ 1024 ∧ i = .int .i64 k ∧ J own (members S k) wr ∧ Keeps own0 own W wr) (fun i _ => 1024 - (intOf i).toNat)
  case atStart => exact ⟨0, own0, Nat.zero_le _, rfl, h0, Keeps.refl _ _⟩
  case round =>
    obtain ⟨k, own, hk, rfl, hJ, hK⟩ := hrel
    by_cases hlt : k < 1024
    · have hc' : wr.cell? ⟨b1, 0, none⟩ = some (.pointer (some ⟨b, o, none⟩)) := (World.cell?_of_block (a := ⟨b1, 0, none⟩) (hK.block b1 hbs HOR.out)).trans hD
      have hset := HE.out own _ wr hJ
      have HH := Lib.hid ((callsIn_wide (n := n - 1)).2 (has_ok wr b o k S hset hlt))
      have hnx := members_next S k
      cases hS : S k with
      | true =>
        rw [hS] at HH
        rw [hS, if_pos rfl] at hnx
        obtain ⟨fn, tmps, assign, body, hy, hRd⟩ := HY.out own (members S k) k wr hJ (hf.keeps hK) ⟨hlt, hS, rfl⟩
        have HJ := Lib.hid (And.intro hJ (And.intro hK (And.intro hnx hS)))
        clear hJ hK hnx hS hset
        gi_wp2_with (gi_at_call 35; refine HH.out.mono ?_; rintro e w' ⟨rfl, rfl⟩)
        refine hRd.mono ?_
        rintro e W3 ⟨own3, hK3, (⟨rfl, hJ3⟩ | ⟨rfl, hJ3⟩)⟩
        · have H3 := Lib.hid (And.intro hJ3 hK3)
          clear hJ3 hK3
          gi_wp2
          go_roundw
          case rel => exact ⟨k + 1, own3, by omega, by go_num, by rw [HJ.out.2.2.1]; exact H3.out.1, HJ.out.2.1.trans H3.out.2⟩
          case measure => simp [intOf]; omega
        · have H3 := Lib.hid (And.intro hJ3 hK3)
          clear hJ3 hK3
          gi_wp2
          refine bodyPost_ret (results_none rfl _ _ _) rfl ?_
          exact ⟨⟨_, rfl⟩, own3, HJ.out.2.1.trans H3.out.2, .inr ⟨_, ⟨k, hlt, HJ.out.2.2.2, rfl⟩, by rw [HJ.out.2.2.1]; exact H3.out.1⟩⟩
      | false =>
        rw [hS] at HH
        rw [hS] at hnx
        have HJ := Lib.hid (And.intro hJ (And.intro hK hnx))
        clear hJ hK hnx hS hset
        gi_wp2_with (gi_at_call 35; refine HH.out.mono ?_; rintro e w' ⟨rfl, rfl⟩)
        refine ⟨fun f h => (by cases h), ?_⟩
        gi_wp2
        go_roundw
        case rel => exact ⟨k + 1, own, by omega, by go_num, by rw [HJ.out.2.2]; exact HJ.out.1, HJ.out.2.1⟩
        case measure => simp [intOf]; omega
    · obtain rfl : k = 1024 := by omega
      have HJ := Lib.hid (And.intro hJ hK)
      clear hJ hK
      gi_wp2
      go_end0
      exact ⟨⟨_, rfl⟩, own, HJ.out.2, .inl ⟨_, rfl, HJ.out.1⟩⟩
end Bu
end Go.Proofs.Ytdanhbbdkcbapaa
