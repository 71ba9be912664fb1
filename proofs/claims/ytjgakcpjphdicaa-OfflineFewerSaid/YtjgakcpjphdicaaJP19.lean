/- Plain: blocks that all live at the same time. -/
import Derived.Test.YtjgakcpjphdicaaJP18
import Derived.Test.YtjgakcpjphdicaaK25
namespace Go.Proofs.Ytjgakcpjphdicaa
open Go.RowKit
namespace Of
def tog (b : OB) : OB := ⟨b.s, 1, 0, 5⟩
theorem tog_ok {L : List OB} (h : checkV L = 0) : checkV (L.map tog) = 0 := by
  rw [checkV_ok] at h ⊢
  refine ⟨by rw [List.length_map]; exact h.1, fun b hb => ?_⟩
  obtain ⟨x, hx, rfl⟩ := List.mem_map.1 hb
  have hx := h.2 x hx
  exact ⟨hx.s1, hx.s2, show isPow 1 = true by decide, show (0 : Int) ≤ 0 by decide, show (0 : Int) < 5 by decide, show (5 : Int) ≤ 1000 by decide⟩
theorem tog_blk {L : List OB} {i : Nat} (hi : i < L.length) : blk (L.map tog) i = tog (blk L i) := by
  unfold blk
  rw [List.getD_eq_getElem?_getD, List.getD_eq_getElem?_getD, List.getElem?_map, List.getElem?_eq_getElem hi]; rfl
def sumS (L : List OB) : Int := (L.map fun b => b.s).sum
theorem sumS_snoc (L : List OB) (b : OB) : sumS (L ++ [b]) = sumS L + b.s := by simp [sumS]
theorem sumS_bd : ∀ {L : List OB}, (∀ b, b ∈ L → Ok b) → 0 ≤ sumS L ∧ sumS L ≤ L.length * 65536
  | [], _ => by simp [sumS]
  | b :: L, h => by
    obtain ⟨h1, h2⟩ := sumS_bd (L := L) fun x hx => h x (by simp [hx])
    have h3 := h b (by simp)
    have h4 := h3.s1
    have h5 := h3.s2
    have e : sumS (b :: L) = b.s + sumS L := by simp [sumS]
    rw [e]
    simp only [List.length_cons]
    omega
theorem sumS_tog (L : List OB) : sumS (L.map tog) = sumS L := by unfold sumS; rw [List.map_map]; rfl
theorem tog_top {L : List OB} (hv : checkV L = 0) {o : List Nat} (hO : Ord L.length o) (hl : o.length = L.length) : topOf (L.map tog) o = sumS L := by
  have hL := (checkV_ok _).1 (tog_ok hv)
  have hlen : (L.map tog).length = L.length := List.length_map _
  rw [all_meet hL (fun i hi => by rw [hlen] at hi; rw [tog_blk hi]; rfl) (fun i j hi hj => by rw [hlen] at hi hj; rw [tog_blk hi, tog_blk hj]; rfl) _ o rfl (by rw [hlen]; exact hO), sum_all (by rw [hlen]; exact hO) (by rw [hlen]; exact hl)]
  exact sumS_tog L
theorem tog_best {L : List OB} (hv : checkV L = 0) : topOf (L.map tog) (bestV (L.map tog)) = sumS L := by
  obtain ⟨_, hO, hl, _⟩ := bestV_spec (L.map tog)
  rw [List.length_map] at hO hl
  exact tog_top hv hO hl
theorem tog_quick {L : List OB} (hv : checkV L = 0) : (lays (L.map tog) (qord (L.map tog) L.length)).T = sumS L := by
  obtain ⟨hO, hl⟩ := qord_ord (L.map tog) L.length
  exact tog_top hv hO hl
theorem erase_is (L : List OB) (k : Nat) : L.take k ++ L.drop (k + 1) = L.eraseIdx k := (List.eraseIdx_eq_take_drop_succ L k).symm
/-- The list while the blocks are turned. -/
def togK (L : List OB) (k : Nat) : List OB := (L.take k).map tog ++ L.drop k
theorem togK_len (L : List OB) (k : Nat) : (togK L k).length = L.length := by unfold togK; simp; omega
theorem togK_get {L : List OB} {k : Nat} (hk : k < L.length) : (togK L k)[k]? = some (blk L k) := by
  unfold togK
  rw [List.getElem?_append_right (by simp; omega)]
  simp only [List.length_map, List.length_take]
  rw [Nat.min_eq_left (by omega), Nat.sub_self, List.getElem?_drop, Nat.add_zero]
  exact blk_get hk
theorem togK_set {L : List OB} {k : Nat} (hk : k < L.length) : (togK L k).set k ⟨(blk L k).s, 1, 0, 5⟩ = togK L (k + 1) := by
  unfold togK
  have h1 : L.take (k + 1) = L.take k ++ [blk L k] := take_next (blk_get hk)
  have h2 : L.drop k = blk L k :: L.drop (k + 1) := by
    rw [List.drop_eq_getElem_cons hk]
    congr 1
    have := blk_get hk
    rw [List.getElem?_eq_getElem hk] at this
    injection this
  rw [h1, h2, List.map_append, List.set_append_right _ _ (by simp; omega)]
  simp only [List.length_map, List.length_take]
  rw [Nat.min_eq_left (by omega), Nat.sub_self, List.set_cons_zero]
  simp [tog]
theorem togK_all (L : List OB) : togK L L.length = L.map tog := by unfold togK; simp
end Of
end Go.Proofs.Ytjgakcpjphdicaa
