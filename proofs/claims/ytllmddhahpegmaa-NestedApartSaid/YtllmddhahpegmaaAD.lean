/- The closure of slices.Values at integers. -/
import Derived.Test.YtllmddhahpegmaaAB
namespace Go.Proofs.Ytllmddhahpegmaa
open Go.RowKit Go.Shelf
namespace Ne
attribute [local go_sem] Oper.semAt_some

theorem take_next {l : List Nat} {k a : Nat} (h : l[k]? = some a) : l.take (k + 1) = l.take k ++ [a] := by
  rw [List.take_add_one, h]; rfl

def RowHas (l : List Nat) (A : Option Addr) (W : World) : Prop := ∀ (j a : Nat), l[j]? = some a → ∃ g, A = some ⟨g, 0, none⟩ ∧ W.cell? ⟨g, j, none⟩ = some (.int .i64 (a : Int))

set_option maxRecDepth 100000 in
set_option maxHeartbeats 2000000 in
theorem valseq (F : Fence) (n : Nat) (hF : F.fn 68) (hro : F.round = none) (hn : 1 ≤ n) (Bs : Nat) (A : Option Addr) (c : Nat) (L : List Nat) (hlc : L.length ≤ 64) :
    SeqY F n Try.prog 68 #[.pointer (some ⟨Bs, 0, none⟩)] (fun a : Nat => #[.int .i64 (a : Int)]) (fun W => Bs < W.heap.size ∧ W.cell? ⟨Bs, 0, none⟩ = some (.slice A L.length c) ∧ RowHas L A W)
      (fun k => k = Bs ∨ (Value.slice A L.length c).ownBlock = some k) (fun xs => xs = L) (fun _ => True) L.length := by
  intro l J Jx own0 W ⟨hbs, hD, hrow⟩ hR hf hFJ hFJx hY h0
  have HR := Lib.hid hrow
  have HY := Lib.hid hY
  have HOR := Lib.hid hR
  clear hrow hY hR
  generalize hLn : L.length = N at *
  have HN := Lib.hid hLn
  clear hLn
  refine callsIn_of_wp Try.func68 rfl hF ?_ hro
  simp only [Try.ntmps68, List.size_toArray, List.length_cons, List.length_nil, Nat.reduceAdd, Nat.reduceSub, Array.replicate_succ, Array.replicate_zero, List.push_toArray, List.append_toArray, List.nil_append, List.cons_append]
  gi_wp2
  gi_loopw [7] (fun i wr => ∃ (k : Nat) (own : Ow), k ≤ N ∧ i = .int .i64 k ∧ J own (L.take k) wr ∧ Keeps own0 own W wr) (fun i _ => N - (intOf i).toNat)
  case atStart => exact ⟨0, own0, Nat.zero_le _, rfl, h0, Keeps.refl _ _⟩
  case round =>
    obtain ⟨k, own, hk, rfl, hJ, hK⟩ := hrel
    by_cases hlt : k < N
    · obtain ⟨a, ha⟩ : ∃ a, L[k]? = some a := ⟨_, List.getElem?_eq_getElem (by rw [HN.out]; exact hlt)⟩
      obtain ⟨g, rfl, hc⟩ := HR.out k a ha
      have hc' : wr.cell? ⟨g, k, none⟩ = some (.int .i64 (a : Int)) := (World.cell?_of_block (a := ⟨g, k, none⟩) (hK.block g (World.block_lt_of_cell? _ (a := ⟨g, k, none⟩) hc) (HOR.out g (.inr rfl)))).trans hc
      obtain ⟨fn, tmps, assign, body, hy, hRd⟩ := HY.out own (L.take k) a wr hJ (hf.keeps hK) (by simp; have := HN.out; omega)
      have HJ := Lib.hid (And.intro hJ (And.intro hK ha))
      clear hJ hK ha hc
      gi_wp2
      refine hRd.mono ?_
      rintro e W3 ⟨own3, hK3, (⟨rfl, hJ3⟩ | ⟨rfl, hJ3⟩)⟩
      · have H3 := Lib.hid (And.intro hJ3 hK3)
        clear hJ3 hK3
        gi_wp2
        go_roundw
        case rel => exact ⟨k + 1, own3, by omega, by go_num, by rw [take_next HJ.out.2.2]; exact H3.out.1, HJ.out.2.1.trans H3.out.2⟩
        case measure => simp [intOf]; omega
      · have H3 := Lib.hid (And.intro hJ3 hK3)
        clear hJ3 hK3
        gi_wp2
        refine bodyPost_ret (results_none rfl _ _ _) rfl ?_
        exact ⟨⟨_, rfl⟩, own3, HJ.out.2.1.trans H3.out.2, .inr ⟨_, trivial, H3.out.1⟩⟩
    · obtain rfl : k = N := by omega
      have HJ := Lib.hid (And.intro hJ hK)
      clear hJ hK
      gi_wp2
      go_end0
      exact ⟨⟨_, rfl⟩, own, HJ.out.2, .inl ⟨_, rfl, by have := HJ.out.1; rwa [List.take_of_length_le (by rw [HN.out]; exact Nat.le_refl _)] at this⟩⟩
end Ne
end Go.Proofs.Ytllmddhahpegmaa
