/- The walk of shut, with what it cuts off behind. -/
import Derived.Test.YtllmddhahpegmaaJ
import Derived.Test.YtllmddhahpegmaaPlain5
import Derived.Deep.LoopGhost
import Derived.Laws.EntriesVeiled
namespace Go.Proofs.Ytllmddhahpegmaa
open Go.RowKit
namespace Ne

set_option maxRecDepth 100000 in
set_option maxHeartbeats 1000000 in
theorem shut_ok (w : World) (own : Nat → Option Nat) (t g cap f : Nat) (cs : Array Value) (M : Tr) (l : List Item) (A : Option Addr) (c : Nat) (hT : TreeAt w own t g cap cs M) (hm : M.length ≤ 64) (hS : ShutOk f M l) (hlen : l.length ≤ 200)
    (hrow : RowAt w A c l) (hroot : ∃ r, (shut f M l)[0]? = some (some r)) :
    Calls Try.prog 40 #[.pointer (some ⟨t, 0, none⟩), .slice A l.length c] w fun e w' => e = .returned (.tuple #[]) ∧
      (∃ cs', TreeAt w' own t g cap cs' (trim (shut f M l)) ∧ ∀ (i : Nat), (shut f M l)[i]? ≠ some none → cs'[i]? = cs[i]?) ∧ w'.os = w.os ∧ w'.tape = w.tape ∧ w'.output = w.output ∧ w.heap.size ≤ w'.heap.size ∧ ∀ k, k < w.heap.size → k ≠ g → k ≠ t → w'.heap[k]? = w.heap[k]? := by
  have hgl := lt_of_heap hT.row
  have htl := lt_of_heap hT.top
  have htg : t ≠ g := fun e => by have := hT.ownT; rw [e, hT.ownG] at this; simp at this
  have HW := fun (w2 : World) (h1 : ∀ k, k < w.heap.size → w2.heap[k]? = w.heap[k]?) (h2 : w2.heap[w.heap.size + 1]? = some (.cells #[.func (.func 54) #[] #[.pointer (some ⟨w.heap.size + 1, 0, none⟩), .pointer (some ⟨w.heap.size, 0, none⟩)]] 80 (0, 0)))
    (h3 : w2.heap[w.heap.size]? = some (.cells #[.pointer (some ⟨t, 0, none⟩)] 23 (0, 0))) =>
    shut_walk own t g cap (w.heap.size + 1) w.heap.size f M l A c w2 cs (hT.grow h1) hm hS hlen (hrow.keep h1) h2 h3
  have HW := Lib.hid HW
  have HR := Lib.hid hroot
  have hML : (shut f M l).length = M.length := shut_length f M l
  clear hrow hS hT hroot
  generalize shut f M l = M3 at *
  rw [← hML] at hm
  clear hML
  go_enter Try.func40, Try.ntmps40
  go_wp2_with fail
  refine (HW.out _ (fun k hk => by rw [heapAlloc, if_neg (by simp; omega), heapAlloc, if_neg (by omega)]) (by rw [heapAlloc, if_pos (by simp)]) (by rw [heapAlloc, if_neg (by simp), heapAlloc, if_pos rfl])).mono ?_
  rintro e w3 ⟨rfl, hb3, cs3, hT3, hcc3⟩
  have hq3 : w3.cell? ⟨w.heap.size, 0, none⟩ = some (.pointer (some ⟨t, 0, none⟩)) := by
    refine (World.cell?_of_block (a := ⟨w.heap.size, 0, none⟩) (hb3.block w.heap.size (by simp; omega) (by omega))).trans ?_
    have : ((w.alloc (.cells #[.pointer (some ⟨t, 0, none⟩)] 23)).alloc (.cells #[.func (.func 54) #[] #[.pointer (some ⟨w.heap.size + 1, 0, none⟩), .pointer (some ⟨w.heap.size, 0, none⟩)]] 80)).heap[w.heap.size]? = some (.cells #[.pointer (some ⟨t, 0, none⟩)] 23) := by
      rw [heapAlloc, if_neg (by simp), heapAlloc, if_pos rfl]
    simp [World.cell?, this]
  have hold : ∀ k, k < w.heap.size → k ≠ g → w3.heap[k]? = w.heap[k]? := fun k hk hn => by
    rw [hb3.block k (by simp; omega) hn, heapAlloc, if_neg (by simp; omega), heapAlloc, if_neg (by omega)]
  have hsz3 : w.heap.size + 2 ≤ w3.heap.size := by have := hb3.size; simp at this; omega
  have H3 := Lib.hid (And.intro hT3 (And.intro hcc3 (And.intro hb3 hold)))
  have hos : w3.os = w.os ∧ w3.tape = w.tape ∧ w3.output = w.output := ⟨hb3.os, hb3.tape, hb3.output⟩
  have HOS := Lib.hid hos
  clear HW hT3 hcc3 hb3 hold hos
  go_wp2_with fail
  go_loopg [] (M3.length + 1) (fun k wr => ∃ m : Nat, m < k ∧ 0 < m ∧ m ≤ M3.length ∧ (∀ j, m ≤ j → j < M3.length → M3[j]? = some none) ∧ TreeAt wr own t g cap cs3 (M3.take m) ∧ wr.heap.size = w3.heap.size ∧ wr.os = w3.os ∧ wr.tape = w3.tape ∧ wr.output = w3.output ∧ ∀ k, k ≠ t → wr.heap[k]? = w3.heap[k]?)
  case atStart =>
    obtain ⟨r, hr⟩ := HR.out
    have := (List.getElem?_eq_some_iff.1 hr).1
    exact ⟨M3.length, by omega, by omega, Nat.le_refl _, fun j h1 h2 => by omega, by rw [List.take_length]; exact H3.out.1, rfl, rfl, rfl, rfl, fun _ _ => rfl⟩
  case round =>
    obtain ⟨m, hmk, hm0, hml, hnone, hT, hrs, hro, hrt, hrout, hrb⟩ := hrel
    obtain ⟨j, rfl⟩ : ∃ j, m = j + 1 := ⟨m - 1, by omega⟩
    have hlen : (M3.take (j + 1)).length = j + 1 := by simp; omega
    have r1 : wr.cell? ⟨w.heap.size, 0, none⟩ = some (.pointer (some ⟨t, 0, none⟩)) := (World.cell?_of_block (a := ⟨w.heap.size, 0, none⟩) (hrb w.heap.size (by omega))).trans hq3
    have r2 : wr.cell? ⟨t, 0, none⟩ = some (.slice (some ⟨g, 0, none⟩) (j + 1) cap) := by
      have := hT.top
      rw [hlen] at this
      simp [World.cell?, this]
    have rf : wr.frozen? ⟨t, 0, none⟩ = false := by simp [World.frozen?, hT.top]
    have hcap := hT.len
    have hmost := hT.most
    rw [hlen] at hcap
    unfold maxLen at hmost
    obtain ⟨o, ho⟩ : ∃ o, M3[j]? = some o := ⟨_, List.getElem?_eq_getElem (by omega)⟩
    obtain ⟨v, hv, hn⟩ := hT.node j o (by rw [List.getElem?_take, if_pos (by omega)]; exact ho)
    have r3 : wr.cell? ⟨g, j, none⟩ = some v := by rw [cell_of_row wr g _ cs3 _ _ hT.row, hv]
    have HT := Lib.hid (And.intro hT (And.intro hrs (And.intro hro (And.intro hrt (And.intro hrout (And.intro hrb hnone))))))
    have HO := Lib.hid ho
    clear hT hrs hro hrt hrout hrb hv ho hnone hlen
    cases o with
    | none =>
      have hn : v = .pointer none := hn
      subst hn
      go_wp2_with fail
      go_quiet (fail)
      go_wp2_with fail
      have w1 : IntKind.i64.wrap (j : Int) = j := IntWalk.i64_in _ (by omega)
      have b1 : (0 : Int) ≤ (j : Int) := by omega
      have b2 : (j : Int) ≤ (cap : Int) := by omega
      refine wp_region_still_tail 14 (by kernel_rfl) (by kernel_rfl) ?_
      simp only [List.take_succ_cons, List.take_zero, List.drop_succ_cons, List.drop_zero]
      change wpStill _ _ (World.drew _) (fun a' => wpList _ _ _ _ a' (World.drew _)) _ _
      repeat still_step
      refine wpStill_nil ?_
      go_wp2
      obtain ⟨hT, hrs, hro, hrt, hrout, hrb, hnone⟩ := HT.out
      have hj0 : 0 < j := by
        rcases Nat.eq_zero_or_pos j with e | e
        · subst e
          obtain ⟨r, hr⟩ := HR.out
          rw [HO.out] at hr
          cases hr
        · exact e
      go_roundg (gk - 1)
      case measure => omega
      case rel =>
        refine ⟨j, by omega, hj0, by omega, fun i h1 h2 => ?_, ?_, (setCell_size _ _ _).trans hrs, hro, hrt, hrout, fun k hk => (setCell_far _ _ _ _ hk).trans (hrb k hk)⟩
        · by_cases e : i = j
          · rw [e]; exact HO.out
          · exact hnone i (by omega) h2
        · have := hT.cut (w' := wr.setCell ⟨t, 0, none⟩ (.slice (some ⟨g, 0, none⟩) j cap)) (m := j) (by simp; omega) (fun k h1 _ => setCell_far _ _ _ _ h1) (by rw [setCell_at _ _ _ _ _ _ hT.top]; rfl)
          rw [List.take_take, Nat.min_eq_left (by omega)] at this
          exact this.grow fun _ _ => rfl
    | some n =>
      obtain ⟨b, iv, rfl, _⟩ := hn
      go_wp2_with fail
      go_quiet (fail)
      go_wp2
      go_end0
      obtain ⟨hT, hrs, hro, hrt, hrout, hrb, hnone⟩ := HT.out
      have ht := trim_take M3 (j + 1) hml hnone ⟨by omega, by rw [show j + 1 - 1 = j by omega, HO.out]; simp⟩
      refine ⟨rfl, ⟨cs3, by rw [ht]; exact hT.grow fun _ _ => rfl, H3.out.2.1⟩, hro.trans HOS.out.1, hrt.trans HOS.out.2.1, hrout.trans HOS.out.2.2, ?_, fun k hk h1 h2 => ?_⟩
      · show w.heap.size ≤ wr.heap.size
        omega
      · exact (hrb k h2).trans (H3.out.2.2.2 k hk h1)
end Ne
end Go.Proofs.Ytllmddhahpegmaa
