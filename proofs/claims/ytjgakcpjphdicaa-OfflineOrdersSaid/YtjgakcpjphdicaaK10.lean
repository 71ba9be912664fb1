/- Plain: lists of all indices. The specification: search. -/
import Derived.Test.YtjgakcpjphdicaaK4
import Derived.Test.YtjgakcpjphdicaaK9
import Derived.Lib.SliceRun
namespace Go.Proofs.Ytjgakcpjphdicaa.Of
abbrev zsP (l : List Nat) : List Int := l.map fun (n : Nat) => (n : Int)
/-- Is that a list of all indices, each once? -/
def isOrd (n : Nat) (M : List Int) : Bool := decide (M.length = n) && ((M.all fun x => decide (0 ≤ x) && decide (x < n)) && decide M.Nodup)
theorem zs_nodup {o : List Nat} : (zsP o).Nodup ↔ o.Nodup := by
  unfold zsP List.Nodup
  rw [List.pairwise_map]
  constructor
  · intro h; exact h.imp fun e h => e (by rw [h])
  · intro h; exact h.imp fun e h => e (by omega)
theorem isOrd_iff {n : Nat} {M : List Int} : isOrd n M = true ↔ ∃ o, M = zsP o ∧ Ord n o ∧ o.length = n := by
  unfold isOrd
  rw [Bool.and_eq_true, Bool.and_eq_true, decide_eq_true_eq, decide_eq_true_eq, List.all_eq_true]
  constructor
  · rintro ⟨h1, h2, h3⟩
    have hM : M = zsP (M.map Int.toNat) := by
      unfold zsP
      rw [List.map_map]
      refine ((List.map_congr_left fun x hx => ?_).trans (List.map_id _)).symm
      have := h2 x hx
      simp at this ⊢
      omega
    refine ⟨M.map Int.toNat, hM, ⟨?_, fun i hi => ?_⟩, by rw [List.length_map]; exact h1⟩
    · rw [hM] at h3; exact zs_nodup.1 h3
    · obtain ⟨x, hx, rfl⟩ := List.mem_map.1 hi
      have := h2 x hx
      simp at this
      omega
  · rintro ⟨o, rfl, ho, hl⟩
    refine ⟨by rw [List.length_map]; exact hl, fun x hx => ?_, zs_nodup.2 ho.1⟩
    obtain ⟨i, hi, rfl⟩ := List.mem_map.1 hx
    have := ho.2 i hi
    simp; omega
theorem isOrd_bad {n : Nat} {M : List Int} {o : List Nat} {k : Nat} {x : Int} (hx : M[k]? = some x) (ho : M.take k = zsP o) (hb : x < 0 ∨ (n : Int) ≤ x ∨ ∃ i : Nat, x = i ∧ i ∈ o) : isOrd n M = false := by
  cases h : isOrd n M with
  | false => rfl
  | true =>
    obtain ⟨p, rfl, hp, _⟩ := isOrd_iff.1 h
    exfalso
    unfold zsP at hx
    rw [List.getElem?_map] at hx
    cases hpk : p[k]? with
    | none => rw [hpk] at hx; cases hx
    | some i =>
      rw [hpk] at hx
      injection hx with hx
      have hx : (i : Int) = x := hx
      subst hx
      have hil := hp.2 i (List.mem_of_getElem? hpk)
      rcases hb with hb | hb | ⟨i', hb, hm⟩
      · omega
      · omega
      · obtain rfl : i = i' := by omega
        have hto : p.take k = o := by
          have : zsP (p.take k) = zsP o := by rw [← ho]; unfold zsP; rw [List.map_take]
          unfold zsP at this
          exact (List.map_inj_right (fun a b e => by have e : (a : Int) = (b : Int) := e; omega)).1 this
        have h1 : Ord n (p.take k ++ [i]) := by
          rw [← take_next hpk]
          exact ⟨hp.1.sublist (List.take_sublist ..), fun j hj => hp.2 j (List.mem_of_mem_take hj)⟩
        rw [hto] at h1
        exact h1.snoc.2.2 hm
end Go.Proofs.Ytjgakcpjphdicaa.Of
namespace Go.Proofs.Ytjgakcpjphdicaa
open Go.RowKit
namespace Of

def topOf (L : List OB) (o : List Nat) : Int := (lays L o).T
abbrev SSt := Option (List Nat) × Int
def leafV (L : List OB) (b : List Nat) (st : SSt) : SSt := if st.1 = none ∨ topOf L b < st.2 then (some b, topOf L b) else st
def stepV (F : List Nat → SSt → SSt) (b : List Nat) (st : SSt) (i : Nat) : SSt := if i ∈ b then st else F (b ++ [i]) st
def searchV (L : List OB) : Nat → List Nat → SSt → SSt
  | 0, b, st => leafV L b st
  | f + 1, b, st => (List.range L.length).foldl (stepV (searchV L f) b) st
/-- The best order so far, as a slice. -/
def BestAt (w : World) (A : Option Addr) (n c : Nat) : Option (List Nat) → Prop
  | none => A = none ∧ n = 0 ∧ c = 0
  | some o => (∃ a, A = some a) ∧ n = o.length ∧ IAt w A c (zsP o)
theorem BestAt.below {w w' : World} {A : Option Addr} {n c : Nat} {s : Option (List Nat)} (h : BestAt w A n c s) (hb : Below w.heap.size w w') : BestAt w' A n c s := by
  cases s with
  | none => exact h
  | some o => exact ⟨h.1, h.2.1, h.2.2.below hb (Nat.le_refl _)⟩
/-- What search leaves. -/
def SOut (w : World) (st : SSt) (e : Ending) (w' : World) : Prop :=
  ∃ (A : Option Addr) (n c : Nat), e = .returned (.tuple #[.slice A n c, .int .i64 st.2]) ∧ BestAt w' A n c st.1 ∧ Below w.heap.size w w'

set_option maxRecDepth 100000 in
set_option maxHeartbeats 4000000 in
theorem leaf_ok (L : List OB) (hL : OkL L) (b : List Nat) (hO : Ord L.length b) (hf : b.length = L.length) (w : World) (lA : Option Addr) (lc : Nat) (bA : Option Addr) (bc : Nat) (A : Option Addr) (n c : Nat) (st : SSt)
    (hl : OBAt w lA lc L) (hb : IAt w bA bc (zsP b)) (hbn : bA = none → bc = 0) (hs : BestAt w A n c st.1) :
    Calls Try.prog 36 #[.slice lA L.length lc, .slice bA b.length bc, .slice A n c, .int .i64 st.2] w (SOut w (leafV L b st)) := by
  have hly := layR_ok w lA lc L bA bc b hl hb hL hO
  have hcap := hl.2.1
  have hlc := hl.1
  have hbl := hb.1
  have hbc := hb.2.1
  rw [List.length_map] at hbl
  unfold maxLen at hcap hbc
  have hlen := hL.1
  have hT : (lays L b).T = topOf L b := rfl
  rw [hT] at hly
  have HLY := Lib.hid hly
  have HB := Lib.hid (And.intro hb (And.intro hs hbn))
  have hlv : leafV L b st = if st.1 = none ∨ topOf L b < st.2 then (some b, topOf L b) else st := rfl
  have heq : ((b.length : Int) == (L.length : Int)) = true := by simp; omega
  clear hly hl hb hT hL hO hbn
  obtain ⟨s1, t⟩ := st
  dsimp only at hlv HB hs ⊢
  generalize topOf L b = T at *
  have HF := Lib.hid hf
  have hnil := fun (W : World) (a : Option Addr) (l c : Nat) => Lib.run_eql_slice_nil (P := Try.prog) W 25 3 a l c 0 0 Try.underlying25
  have HW := Lib.hid (fun (W : World) (hW : Below w.heap.size w W) (h : W.heap.size = W.heap.size) => IAt.below HB.out.1 hW (Nat.le_refl _))
  clear hf
  by_cases hc : s1 = none ∨ T < t
  · rw [if_pos hc] at hlv
    have HLV := Lib.hid hlv
    clear hlv
    have hiso : A.isNone = true ∨ (A.isNone = false ∧ T < t) := by
      rcases hc with h | h
      · subst h; obtain ⟨rfl, _⟩ := hs; exact .inl rfl
      · cases A with
        | none => exact .inl rfl
        | some a => exact .inr ⟨rfl, h⟩
    clear hc hs
    rcases hiso with hz | ⟨hz, hlt⟩
    · go_enter Try.func36, Try.ntmps36
      go_wp2_with (first
        | (go_at_call 37; refine HLY.out.mono ?_; rintro e w1 ⟨ga, rfl, hr, hg, hb1⟩; have HB1 := Lib.hid hb1; clear hr hg hb1)
        | (at_builtin; refine wpList_own rfl (.tmp 33) (.tmp 34) rfl w1.heap.size (some ⟨w1.heap.size, 0, none⟩) 0 [] rfl (own_new w1) bA bc (zsP b) (by unfold zsP; rw [List.length_map]; rfl) (IAt.below HB.out.1 (HB1.out.trans ((below_box w1 c0).mono HB1.out.size)) (Nat.le_refl _)) HB.out.2.2 (by show 0 + (zsP b).length ≤ _; unfold zsP; rw [List.length_map]; have := HF.out; omega) (below_box w1 c0).size ?_; intro A3 c3 w3 h3 h3s h3b; rw [List.nil_append] at h3 ⊢; have H3 := Lib.hid (And.intro h3 (And.intro (h3s _ rfl) ((below_box w1 c0).trans h3b))); clear h3 h3s h3b))
      go_ret2
      exact ⟨A3, b.length, c3, by rw [HLV.out]; rfl, by rw [HLV.out]; exact ⟨H3.out.2.1, rfl, (OwnI.at H3.out.1).1⟩, HB1.out.trans (H3.out.2.2.mono HB1.out.size)⟩
    · go_enter Try.func36, Try.ntmps36
      go_wp2_with (first
        | (go_at_call 37; refine HLY.out.mono ?_; rintro e w1 ⟨ga, rfl, hr, hg, hb1⟩; have HB1 := Lib.hid hb1; clear hr hg hb1)
        | (at_builtin; refine wpList_own rfl (.tmp 33) (.tmp 34) rfl w1.heap.size (some ⟨w1.heap.size, 0, none⟩) 0 [] rfl (own_new w1) bA bc (zsP b) (by unfold zsP; rw [List.length_map]; rfl) (IAt.below HB.out.1 (HB1.out.trans ((below_box w1 c0).mono HB1.out.size)) (Nat.le_refl _)) HB.out.2.2 (by show 0 + (zsP b).length ≤ _; unfold zsP; rw [List.length_map]; have := HF.out; omega) (below_box w1 c0).size ?_; intro A3 c3 w3 h3 h3s h3b; rw [List.nil_append] at h3 ⊢; have H3 := Lib.hid (And.intro h3 (And.intro (h3s _ rfl) ((below_box w1 c0).trans h3b))); clear h3 h3s h3b))
      go_ret2
      exact ⟨A3, b.length, c3, by rw [HLV.out]; rfl, by rw [HLV.out]; exact ⟨H3.out.2.1, rfl, (OwnI.at H3.out.1).1⟩, HB1.out.trans (H3.out.2.2.mono HB1.out.size)⟩
  · rw [if_neg hc] at hlv
    have HLV := Lib.hid hlv
    clear hlv
    have hz : A.isNone = false := by
      cases s1 with
      | none => exact absurd (.inl rfl) hc
      | some o => obtain ⟨⟨a, rfl⟩, _⟩ := hs; rfl
    have hge : ¬ T < t := fun h => hc (.inr h)
    have HS := Lib.hid hs
    clear hc hs
    go_enter Try.func36, Try.ntmps36
    go_wp2_with (go_at_call 37; refine HLY.out.mono ?_; rintro e w1 ⟨ga, rfl, hr, hg, hb1⟩; have HB1 := Lib.hid hb1; clear hr hg hb1)
    go_ret2
    exact ⟨A, n, c, by rw [HLV.out]; rfl, by rw [HLV.out]; exact HS.out.below HB1.out, HB1.out⟩
end Of
end Go.Proofs.Ytjgakcpjphdicaa
