/- The specification: search, all of it. The search: plain. -/
import Derived.Test.YtjgakcpjphdicaaK10
namespace Go.Proofs.Ytjgakcpjphdicaa
open Go.RowKit
namespace Of

theorem obAt_below {w w' : World} {A : Option Addr} {c : Nat} {L : List OB} (h : OBAt w A c L) (hb : Below w.heap.size w w') : OBAt w' A c L := OBAt.below h hb (Nat.le_refl _)
theorem any_next {b : List Nat} {k : Nat} {x : Nat} (hx : b[k]? = some x) (i : Nat) : (decide (i ∈ b.take (k + 1))) = (decide (i ∈ b.take k) || decide (x = i)) := by
  rw [List.take_add_one, hx, Option.toList_some, Bool.eq_iff_iff]
  simp only [decide_eq_true_eq, Bool.or_eq_true, List.mem_append, List.mem_singleton]
  constructor
  · rintro (h | h)
    · exact .inl h
    · exact .inr h.symm
  · rintro (h | h)
    · exact .inl h
    · exact .inr h.symm

set_option maxRecDepth 100000 in
set_option maxHeartbeats 8000000 in
theorem search_ok (L : List OB) (hL : OkL L) : ∀ (f : Nat) (b : List Nat), Ord L.length b → b.length + f = L.length → ∀ (w : World) (lA : Option Addr) (lc : Nat) (bA : Option Addr) (bc : Nat) (A : Option Addr) (n c : Nat) (st : SSt),
    OBAt w lA lc L → IAt w bA bc (zsP b) → (bA = none → bc = 0) → BestAt w A n c st.1 →
    Calls Try.prog 36 #[.slice lA L.length lc, .slice bA b.length bc, .slice A n c, .int .i64 st.2] w (SOut w (searchV L f b st)) := by
  intro f
  induction f with
  | zero => intro b hO hf w lA lc bA bc A n c st hl hb hbn hs; exact leaf_ok L hL b hO (by omega) w lA lc bA bc A n c st hl hb hbn hs
  | succ f ih =>
    intro b hO hf w lA lc bA bc A n c st hl hb hbn hs
    have IH := Lib.hid (fun (i : Nat) (hi : i < L.length) (hib : i ∉ b) => by have h := ih (b ++ [i]) (hO.push hi hib) (by simp; omega); rw [show (b ++ [i]).length = b.length + 1 by simp] at h; exact h)
    clear ih
    have hcap := hl.2.1
    have hlc := hl.1
    have hbl := hb.1
    have hbc := hb.2.1
    rw [List.length_map] at hbl
    unfold maxLen at hcap hbc
    have hlen := hL.1
    have hbL : b.length < L.length := by omega
    have hv : searchV L (f + 1) b st = (List.range L.length).foldl (stepV (searchV L f) b) st := rfl
    have HV := Lib.hid hv
    have HH := Lib.hid (And.intro hl (And.intro hb (And.intro hbn hs)))
    have heq : ((b.length : Int) == (L.length : Int)) = false := by simp; omega
    clear hl hb hbn hs hL hO hf hv
    go_enter Try.func36, Try.ntmps36
    go_wp2_with (fail)
    go_loopw [2, 3, 12] (fun bs top i wr => ∃ (k : Nat) (A : Option Addr) (n c : Nat), k ≤ L.length ∧ i = .int .i64 k ∧ bs = .slice A n c ∧ top = .int .i64 ((List.range k).foldl (stepV (searchV L f) b) st).2 ∧ BestAt wr A n c ((List.range k).foldl (stepV (searchV L f) b) st).1 ∧ Below w.heap.size w wr) (fun _ _ i _ => L.length - (intOf i).toNat)
    case atStart => exact ⟨0, A, n, c, Nat.zero_le _, rfl, rfl, rfl, HH.out.2.2.2, Below.refl _ _⟩
    case round =>
      obtain ⟨i, A', n', c', hi, rfl, rfl, rfl, hs, hbw⟩ := hrel
      by_cases hlt : i < L.length
      · have HS := Lib.hid (And.intro hs hbw)
        clear hs hbw
        obtain ⟨st1, hst1⟩ : ∃ z, z = (List.range i).foldl (stepV (searchV L f) b) st := ⟨_, rfl⟩
        rw [← hst1] at HS ⊢
        have HST := Lib.hid hst1
        clear hst1
        go_wp2_with (fail)
        go_loopw [13, 14] (fun u k wr2 => ∃ k0 : Nat, k0 ≤ b.length ∧ k = .int .i64 k0 ∧ u = .bool (decide (i ∈ b.take k0)) ∧ wr2 = wr) (fun _ k _ => b.length - (intOf k).toNat)
        case atStart => exact ⟨0, Nat.zero_le _, rfl, by simp, rfl⟩
        case round =>
          obtain ⟨k, hk, rfl, rfl, rfl⟩ := hrel
          by_cases hkl : k < b.length
          · obtain ⟨x, hx⟩ : ∃ x, b[k]? = some x := ⟨_, List.getElem?_eq_getElem hkl⟩
            obtain ⟨g, oo, rfl, hg, d0⟩ := (HH.out.2.1.below HS.out.2 (Nat.le_refl _)).2.2 k (x : Int) (by unfold zsP; rw [List.getElem?_map, hx]; rfl)
            have hnx := any_next hx i
            have HN := Lib.hid hnx
            clear hnx hx
            generalize decide (i ∈ b.take k) = u at *
            cases u with
            | true =>
              go_wp2
              go_roundw
              case rel => exact ⟨k + 1, by omega, by go_num, by rw [HN.out]; rfl, trivial⟩
              case measure => simp [intOf]; omega
            | false =>
              by_cases hxi : x = i
              · have e : ((x : Int) == (i : Int)) = true := by simp; omega
                have HX := Lib.hid hxi
                clear hxi
                go_wp2
                go_roundw
                case rel => exact ⟨k + 1, by omega, by go_num, by rw [HN.out, decide_eq_true HX.out]; rfl, trivial⟩
                case measure => simp [intOf]; omega
              · have e : ((x : Int) == (i : Int)) = false := by simp; omega
                have HX := Lib.hid hxi
                clear hxi
                go_wp2
                go_roundw
                case rel => exact ⟨k + 1, by omega, by go_num, by rw [HN.out, decide_eq_false HX.out]; rfl, trivial⟩
                case measure => simp [intOf]; omega
          · obtain rfl : k = b.length := by omega
            rw [List.take_length]
            have hfold : (List.range (i + 1)).foldl (stepV (searchV L f) b) st = stepV (searchV L f) b st1 i := by rw [List.range_succ, List.foldl_append, HST.out]; rfl
            have HF := Lib.hid hfold
            clear hfold
            by_cases hib : i ∈ b
            · have hd : decide (i ∈ b) = true := decide_eq_true hib
              rw [hd]
              have HD := Lib.hid hib
              clear hib hd
              go_wp2
              go_roundw
              case rel => exact ⟨i + 1, A', n', c', by omega, by go_num, rfl, by rw [HF.out]; unfold stepV; rw [if_pos HD.out], by rw [HF.out]; unfold stepV; rw [if_pos HD.out]; exact HS.out.1, HS.out.2⟩
              case measure => simp [intOf]; omega
            · have hd : decide (i ∈ b) = false := decide_eq_false hib
              rw [hd]
              have HD := Lib.hid hib
              clear hib hd
              have hsz : w.heap.size ≤ wr.heap.size := HS.out.2.size
              have hbb : IAt wr bA bc (zsP b) := HH.out.2.1.below HS.out.2 (Nat.le_refl _)
              have HB := Lib.hid (And.intro hbb HH.out.2.2.1)
              have hz1 : zsP b ++ [(i : Int)] = zsP (b ++ [i]) := by unfold zsP; rw [List.map_append]; rfl
              have hz2 : (zsP b ++ [(i : Int)]).length = b.length + 1 := by rw [hz1]; unfold zsP; rw [List.length_map, List.length_append]; rfl
              have HZ := Lib.hid (And.intro hz1 hz2)
              clear hz1 hz2
              clear hbb
              go_wp2_with (first
                | (at_builtin; refine wpList_own rfl (.tmp 64) (.tmp 65) rfl wr.heap.size (some ⟨wr.heap.size, 0, none⟩) 0 [] rfl (own_new wr) bA bc (zsP b) (by unfold zsP; rw [List.length_map]; rfl) (HB.out.1.below (below_box wr c0) (Nat.le_refl _)) HB.out.2 (by show 0 + (zsP b).length ≤ _; unfold zsP; rw [List.length_map]; omega) (below_box wr c0).size ?_; intro A3 c3 w3 h3 h3s h3b; rw [List.nil_append] at h3 ⊢; have H3 := Lib.hid (And.intro h3 (And.intro (h3s _ rfl) ((below_box wr c0).trans h3b))); clear h3 h3s h3b)
                | (at_builtin; refine wpList_own rfl (.tmp 66) (.tmp 68) rfl wr.heap.size A3 c3 (zsP b) (by unfold zsP; rw [List.length_map]; rfl) (two_c (w := wr) (i : Int) H3.out.1).row (some ⟨w3.heap.size, 0, none⟩) 1 [(i : Int)] rfl (two_c (w := wr) (i : Int) H3.out.1).one (fun h => by cases h) (by unfold zsP; rw [List.length_map]; show b.length + 1 ≤ _; omega) (Nat.le_trans H3.out.2.2.size (below_box w3 _).size) ?_; intro A5 c5 w5 h5 h5s h5b; rw [HZ.out.2]; rw [HZ.out.1] at h5; have H5 := Lib.hid (And.intro h5 (And.intro (h5s _ H3.out.2.1.choose_spec) (H3.out.2.2.trans ((below_box w3 _).mono H3.out.2.2.size |>.trans h5b)))); clear h5 h5s h5b)
                | (go_at_call 36; refine (IH.out i hlt HD.out w5 lA lc A5 c5 A' n' c' st1 ((HH.out.1.below HS.out.2 (Nat.le_refl _)).below H5.out.2.2 (Nat.le_refl _)) (OwnI.at H5.out.1).1 (fun h => absurd (H5.out.2.1.choose_spec.symm.trans h) (by simp)) (HS.out.1.below H5.out.2.2)).mono ?_; rintro e w6 ⟨A6, n6, c6, rfl, hs6, hb6⟩; have H6 := Lib.hid (And.intro hs6 hb6); clear hs6 hb6))
              go_roundw
              case rel => exact ⟨i + 1, A6, n6, c6, by omega, by go_num, rfl, by rw [HF.out]; unfold stepV; rw [if_neg HD.out], by rw [HF.out]; unfold stepV; rw [if_neg HD.out]; exact H6.out.1, HS.out.2.trans ((H5.out.2.2.trans (H6.out.2.mono H5.out.2.2.size)).mono hsz)⟩
              case measure => simp [intOf]; omega
      · obtain rfl : i = L.length := by omega
        have HS := Lib.hid (And.intro hs hbw)
        clear hs hbw
        rw [← HV.out] at HS ⊢
        go_wp2
        go_ret2
        exact ⟨A', n', c', rfl, HS.out.1, HS.out.2⟩
end Of
end Go.Proofs.Ytjgakcpjphdicaa
namespace Go.Proofs.Ytjgakcpjphdicaa
open Go.RowKit
namespace Of

/-- All orders that begin so, ascending. -/
def allF (n : Nat) : Nat → List Nat → List (List Nat)
  | 0, b => [b]
  | f + 1, b => (List.range n).flatMap fun i => if i ∈ b then [] else allF n f (b ++ [i])
theorem foldl_flat {α β γ : Type} (F : γ → β → γ) (G : α → List β) : ∀ (l : List α) (s : γ), (l.flatMap G).foldl F s = l.foldl (fun s a => (G a).foldl F s) s
  | [], _ => rfl
  | a :: l, s => by rw [List.flatMap_cons, List.foldl_append, foldl_flat F G l]; rfl
theorem searchV_all (L : List OB) : ∀ (f : Nat) (b : List Nat) (st : SSt), searchV L f b st = (allF L.length f b).foldl (fun s p => leafV L p s) st
  | 0, b, st => rfl
  | f + 1, b, st => by
    show (List.range L.length).foldl (stepV (searchV L f) b) st = ((List.range L.length).flatMap _).foldl _ st
    rw [foldl_flat]
    have e : stepV (searchV L f) b = fun (s : SSt) (a : Nat) => ((if a ∈ b then [] else allF L.length f (b ++ [a])) : List (List Nat)).foldl (fun s p => leafV L p s) s := by
      funext s a
      unfold stepV
      by_cases h : a ∈ b
      · rw [if_pos h, if_pos h]; rfl
      · rw [if_neg h, if_neg h]; exact searchV_all L f (b ++ [a]) s
    rw [e]
theorem allF_ord {n : Nat} : ∀ (f : Nat) (b : List Nat), Ord n b → b.length + f = n → ∀ p, p ∈ allF n f b → Ord n p ∧ p.length = n
  | 0, b, hO, hl, p, hp => by
    obtain rfl : p = b := by simpa [allF] using hp
    exact ⟨hO, by omega⟩
  | f + 1, b, hO, hl, p, hp => by
    obtain ⟨i, hi, h⟩ := List.mem_flatMap.1 hp
    by_cases hb : i ∈ b
    · rw [if_pos hb] at h; cases h
    · rw [if_neg hb] at h
      exact allF_ord f _ (hO.push (List.mem_range.1 hi) hb) (by simp; omega) p h
theorem free_one {n : Nat} {b : List Nat} (hO : Ord n b) (h : b.length < n) : ∃ i, i < n ∧ i ∉ b := by
  rcases Classical.em (∃ i, i < n ∧ i ∉ b) with h1 | h1
  · exact h1
  · have hall : ∀ i, i < n → i ∈ b := fun i hi => Classical.byContradiction fun hn => h1 ⟨i, hi, hn⟩
    have := (List.nodup_range (n := n)).length_le_of_subset (l₂ := b) (fun i hi => hall i (List.mem_range.1 hi))
    rw [List.length_range] at this; omega
theorem allF_ne {n : Nat} : ∀ (f : Nat) (b : List Nat), Ord n b → b.length + f = n → allF n f b ≠ []
  | 0, b, _, _ => by simp [allF]
  | f + 1, b, hO, hl => by
    obtain ⟨i, hi, hb⟩ := free_one hO (by omega)
    intro h
    have h2 := List.flatMap_eq_nil_iff.1 h i (List.mem_range.2 hi)
    rw [if_neg hb] at h2
    exact allF_ne f _ (hO.push hi hb) (by simp; omega) h2

/-- What a search keeps: nothing yet, or the first of the least. -/
theorem fold_leaf (L : List OB) : ∀ (l : List (List Nat)) (o : List Nat), ∃ q, (q = o ∨ q ∈ l) ∧ l.foldl (fun s p => leafV L p s) (some o, topOf L o) = (some q, topOf L q) ∧ topOf L q ≤ topOf L o ∧ ∀ p, p ∈ l → topOf L q ≤ topOf L p
  | [], o => ⟨o, .inl rfl, rfl, Int.le_refl _, fun _ h => by cases h⟩
  | p :: l, o => by
    rw [List.foldl_cons]
    by_cases h : topOf L p < topOf L o
    · have e : leafV L p (some o, topOf L o) = (some p, topOf L p) := by unfold leafV; rw [if_pos (.inr h)]
      rw [e]
      obtain ⟨q, h1, h2, h3, h4⟩ := fold_leaf L l p
      exact ⟨q, .inr (by rcases h1 with rfl | h1 <;> simp_all), h2, by omega, fun x hx => by
        rcases List.mem_cons.1 hx with rfl | hx
        · exact h3
        · exact h4 x hx⟩
    · have e : leafV L p (some o, topOf L o) = (some o, topOf L o) := by
        unfold leafV
        rw [if_neg]
        rintro (h5 | h5)
        · cases h5
        · exact h h5
      rw [e]
      obtain ⟨q, h1, h2, h3, h4⟩ := fold_leaf L l o
      exact ⟨q, h1.imp_right fun h => List.mem_cons_of_mem _ h, h2, h3, fun x hx => by
        rcases List.mem_cons.1 hx with rfl | hx
        · omega
        · exact h4 x hx⟩
/-- The best order of the specification. -/
theorem search_best (L : List OB) : ∃ o, searchV L L.length [] (none, 0) = (some o, topOf L o) ∧ Ord L.length o ∧ o.length = L.length ∧ ∀ p, p ∈ allF L.length L.length [] → topOf L o ≤ topOf L p := by
  have hO : Ord L.length [] := ⟨List.nodup_nil, fun i hi => by cases hi⟩
  rw [searchV_all]
  have hne := allF_ne L.length [] hO (by simp)
  have hor := allF_ord L.length [] hO (by simp)
  generalize allF L.length L.length [] = l at *
  cases l with
  | nil => exact absurd rfl hne
  | cons p l =>
    rw [List.foldl_cons]
    have e : leafV L p (none, 0) = (some p, topOf L p) := by unfold leafV; rw [if_pos (.inl rfl)]
    rw [e]
    obtain ⟨q, h1, h2, h3, h4⟩ := fold_leaf L l p
    have hq : q ∈ p :: l := by rcases h1 with rfl | h1 <;> simp_all
    exact ⟨q, h2, (hor q hq).1, (hor q hq).2, fun x hx => by
      rcases List.mem_cons.1 hx with rfl | hx
      · exact h3
      · exact h4 x hx⟩
/-- The order that Best returns. -/
def bestV (L : List OB) : List Nat := (searchV L L.length [] (none, 0)).1.getD []
theorem bestV_spec (L : List OB) : searchV L L.length [] (none, 0) = (some (bestV L), topOf L (bestV L)) ∧ Ord L.length (bestV L) ∧ (bestV L).length = L.length ∧ ∀ p, p ∈ allF L.length L.length [] → topOf L (bestV L) ≤ topOf L p := by
  obtain ⟨o, h1, h2⟩ := search_best L
  have e : bestV L = o := by unfold bestV; rw [h1]; rfl
  rw [e]; exact ⟨h1, h2⟩
end Of
end Go.Proofs.Ytjgakcpjphdicaa
