/- Slabs, plain: Trim. Trim of a cache. Objects of a cache. Owner of a cache where a slab has the address. -/
import Derived.Test.YtlknhbcambdccaaK18
import Derived.Test.YtlknhbcambdccaaK19
import Derived.Test.YtlknhbcambdccaaK4
import Derived.Maps.OwnIn
import Derived.Maps.AppendAt
import Derived.Test.YtlknhbcambdccaaK20
namespace Go.Proofs.Ytlknhbcambdccaa
open Go.RowKit
namespace Sl
open Bu

def full0 (x : Slb) : Bool := !(x.many == 0)
/-- The slabs when those from k on are trimmed. -/
def slK (l : List Slb) (k : Nat) : List Slb := l.take k ++ (l.drop k).filter full0
/-- The blocks then. -/
def delK (o : Nat) (L : List Blk) (l : List Slb) : List Blk := ((l.filter fun x => x.many == 0)).foldr (fun x M => delB M (x.pg, o)) L
def trimC (C : Ca) : Ca := { C with sl := C.sl.filter full0 }
def trimL (C : Ca) (L : List Blk) : List Blk := delK C.order L C.sl

theorem slK_len (l : List Slb) : slK l l.length = l := by unfold slK; rw [List.take_length, List.drop_length]; simp
theorem slK_zero (l : List Slb) : slK l 0 = l.filter full0 := by unfold slK; simp
theorem slK_at {l : List Slb} {k : Nat} (hk : k < l.length) : (slK l (k + 1))[k]? = l[k]? := by
  unfold slK
  rw [List.getElem?_append_left (by simp; omega), List.getElem?_take_of_lt (by omega)]
theorem slK_keep {l : List Slb} {k : Nat} {x : Slb} (hx : l[k]? = some x) (h : x.many ≠ 0) : slK l k = slK l (k + 1) := by
  obtain ⟨hk, he⟩ := List.getElem?_eq_some_iff.1 hx
  unfold slK
  rw [List.drop_eq_getElem_cons hk, he, List.filter_cons, if_pos (by unfold full0; simp [h]), List.take_succ_eq_append_getElem hk, he, List.append_assoc]
  rfl
theorem slK_gone {l : List Slb} {k : Nat} {x : Slb} (hx : l[k]? = some x) (h : x.many = 0) : slK l k = (slK l (k + 1)).eraseIdx k := by
  obtain ⟨hk, he⟩ := List.getElem?_eq_some_iff.1 hx
  unfold slK
  rw [List.drop_eq_getElem_cons hk, he, List.filter_cons, if_neg (by unfold full0; simp [h]), List.take_succ_eq_append_getElem hk, List.append_assoc]
  rw [List.eraseIdx_append_of_length_le (by simp; omega)]
  simp [Nat.min_eq_left (Nat.le_of_lt hk)]
theorem delK_keep {o : Nat} {L : List Blk} {l : List Slb} {k : Nat} {x : Slb} (hx : l[k]? = some x) (h : x.many ≠ 0) : delK o L (l.drop k) = delK o L (l.drop (k + 1)) := by
  obtain ⟨hk, he⟩ := List.getElem?_eq_some_iff.1 hx
  unfold delK
  rw [List.drop_eq_getElem_cons hk, he, List.filter_cons, if_neg (by simp [h])]
theorem delK_gone {o : Nat} {L : List Blk} {l : List Slb} {k : Nat} {x : Slb} (hx : l[k]? = some x) (h : x.many = 0) : delK o L (l.drop k) = delB (delK o L (l.drop (k + 1))) (x.pg, o) := by
  obtain ⟨hk, he⟩ := List.getElem?_eq_some_iff.1 hx
  unfold delK
  rw [List.drop_eq_getElem_cons hk, he, List.filter_cons, if_pos (by simp [h])]
  rfl
theorem mem_slK {l : List Slb} {k : Nat} {x : Slb} (h : x ∈ slK l k) : x ∈ l := by
  unfold slK at h
  rcases List.mem_append.1 h with h | h
  · exact List.mem_of_mem_take h
  · exact List.mem_of_mem_drop (List.mem_filter.1 h).1
theorem empty_slK (l : List Slb) (k : Nat) : emptyS (slK l k) ≤ emptyS l := by
  unfold emptyS slK
  rw [List.filter_append, List.length_append]
  have h1 : ((l.drop k).filter full0).filter (fun x => x.many == 0) = [] := by
    rw [List.filter_filter, List.filter_eq_nil_iff]
    intro a _
    unfold full0
    cases a.many == 0 <;> simp
  rw [h1]
  have h2 : List.Sublist ((l.take k).filter (fun x => x.many == 0)) (l.filter (fun x => x.many == 0)) := (List.take_sublist k l).filter _
  have := h2.length_le
  simpa using this
theorem pairs_slK {l : List Slb} (h : l.Pairwise fun a b => a.pg < b.pg) (k : Nat) : (slK l k).Pairwise fun a b => a.pg < b.pg := by
  have hs : List.Sublist (slK l k) l := by
    unfold slK
    have : List.Sublist (l.take k ++ (l.drop k).filter full0) (l.take k ++ l.drop k) := (List.Sublist.refl _).append (List.filter_sublist)
    rwa [List.take_append_drop] at this
  exact h.sublist hs
/-- A cache while it is trimmed. -/
theorem okK {C : Ca} {N : Nat} {L : List Blk} (H : CaOk C N L) : ∀ (n k : Nat), k + n = C.sl.length → CaOk { C with sl := slK C.sl k } N (delK C.order L (C.sl.drop k)) := by
  intro n
  induction n with
  | zero =>
    intro k hk
    obtain rfl : k = C.sl.length := by omega
    rw [slK_len, List.drop_length]
    exact H
  | succ n ih =>
    intro k hk
    have := ih (k + 1) (by omega)
    obtain ⟨x, hx⟩ : ∃ x, C.sl[k]? = some x := ⟨_, List.getElem?_eq_getElem (by omega)⟩
    by_cases hz : x.many = 0
    · rw [slK_gone hx hz, delK_gone hx hz]
      exact ok_del (C := { C with sl := slK C.sl (k + 1) }) (k := k) (x := x) (l := slK C.sl (k + 1)) this.sz this.od this.kp this.fit this.st this.asc this.giv this.len (by rw [slK_at (by omega)]; exact hx) hz (by have h2 : emptyS (slK C.sl (k + 1)) ≤ C.keep := this.emp; show emptyS (slK C.sl (k + 1)) ≤ C.keep + 1; omega)
    · rw [slK_keep hx hz, delK_keep hx hz]
      exact this
theorem trim_ok0 {C : Ca} {N : Nat} {L : List Blk} (H : CaOk C N L) : CaOk (trimC C) N (trimL C L) := by
  have := okK H C.sl.length 0 (by omega)
  rw [slK_zero, List.drop_zero] at this
  exact this
end Sl
end Go.Proofs.Ytlknhbcambdccaa
namespace Go.Proofs.Ytlknhbcambdccaa
open Go.RowKit
namespace Sl
open Bu

/-- What holds while a cache is trimmed. -/
def TrimI (own : Own?) (c b : Nat) (C : Ca) (N : Nat) (L : List Blk) (w : World) (k : Nat) (W : World) : Prop :=
  Held W own c b { C with sl := slK C.sl k } N (delK C.order L (C.sl.drop k)) ∧ Keeps own own w W

theorem TrimI.keep {own : Own?} {c b : Nat} {C : Ca} {N : Nat} {L : List Blk} {w W : World} {k : Nat} {x : Slb} (h : TrimI own c b C N L w (k + 1) W) (hx : C.sl[k]? = some x) (hz : x.many ≠ 0) : TrimI own c b C N L w k W := by
  unfold TrimI
  rw [slK_keep hx hz, delK_keep hx hz]
  exact h

set_option maxRecDepth 100000 in
set_option maxHeartbeats 4000000 in
theorem trimS_ok (w : World) (own : Own?) (c b : Nat) (C : Ca) (N : Nat) (L : List Blk) (H : Held w own c b C N L) :
    Calls Try.prog 20 #[.pointer (some ⟨c, 0, none⟩)] w fun e w' => e = .returned (.tuple #[.int .i64 (emptyS C.sl : Int), .int .i64 0]) ∧ Held w' own c b (trimC C) N (trimL C L) ∧ Keeps own own w w' := by
  have h0 : TrimI own c b C N L w C.sl.length w := by
    unfold TrimI
    rw [slK_len, List.drop_length]
    exact ⟨H, Keeps.refl _ _⟩
  obtain ⟨A, cap, R, hC⟩ := H.at_
  obtain ⟨n, hn⟩ : ∃ n, n = C.sl.length := ⟨_, rfl⟩
  have hRn : R.length = n := hC.len.trans hn.symm
  obtain ⟨c0, c1, c2, c3, c4, c5, _, _⟩ := six_cells hC.cell
  have hcap : n ≤ 9223372036854775807 := by
    rcases hC.row.2 with ⟨hv, h0⟩ | ⟨g, cp, cur, hv, _, _, g1, g2, _⟩
    · omega
    · unfold maxLen at g2; omega
  rw [hRn] at c4
  rw [← hn] at h0
  obtain ⟨e, hee⟩ : ∃ e, e = emptyS C.sl := ⟨_, rfl⟩
  rw [← hee] at c5
  have hok := fun k (hk : k ≤ C.sl.length) => okK H.ok (C.sl.length - k) k (by omega)
  have he64 : emptyS C.sl ≤ 64 := Nat.le_trans H.ok.emp H.ok.kp
  have HD := Lib.hid (dead_ok w c (some ⟨b, 0, none⟩) c0)
  have hdec : IntKind.i64.wrap ((n : Int) - 1) = (n : Int) - 1 := IntWalk.i64_in _ (by omega)
  have HX := Lib.hid (And.intro H (And.intro hn (And.intro hee (And.intro h0 (And.intro hok he64)))))
  clear H hn hee h0 hC hRn hok he64 c0 c1 c2 c3
  go_enter Try.func20, Try.ntmps20
  go_wp2_with (go_at_call 34; refine HD.out.mono ?_; rintro e w' ⟨rfl, rfl⟩)
  clear c4 c5
  go_loopw [5] (fun v wr => ∃ (k : Nat) (z : Int), k ≤ n ∧ z + 1 = (k : Int) ∧ v = .int .i64 z ∧ TrimI own c b C N L w k wr) (fun v _ => (intOf v + 1).toNat)
  case atStart => exact ⟨n, (n : Int) - 1, Nat.le_refl _, by omega, rfl, HX.out.2.2.2.1⟩
  case round =>
    obtain ⟨k, z, hk, hz, rfl, hI⟩ := hrel
    by_cases h1 : 1 ≤ k
    · obtain ⟨i, rfl⟩ : ∃ i : Nat, k = i + 1 := ⟨k - 1, by omega⟩
      obtain rfl : z = (i : Int) := by omega
      obtain ⟨x, hx⟩ : ∃ x, C.sl[i]? = some x := ⟨_, List.getElem?_eq_getElem (by have := HX.out.2.1; omega)⟩
      have hx2 : (slK C.sl (i + 1))[i]? = some x := by rw [slK_at (by have := HX.out.2.1; omega)]; exact hx
      obtain ⟨hH, hKp⟩ := hI
      obtain ⟨A2, cap2, R2, hC2⟩ := hH.at_
      have hil : i < R2.length := by rw [hC2.len]; exact (List.getElem?_eq_some_iff.1 hx2).1
      obtain ⟨p, hp⟩ : ∃ p, R2[i]? = some p := ⟨_, List.getElem?_eq_getElem hil⟩
      obtain ⟨u, uc, hs⟩ := hC2.slab i p x hp hx2
      obtain ⟨g, rfl⟩ : ∃ g, A2 = some ⟨g, 0, none⟩ := by
        rcases hC2.row.2 with ⟨_, h0⟩ | ⟨g, cp, cur, hv, _⟩
        · omega
        · injection hv with hv; exact ⟨g, hv⟩
      obtain ⟨_, _, _, _, d4, _, _, _⟩ := six_cells hC2.cell
      obtain ⟨_, _, p2, _⟩ := three_cells hs.cell
      have r0 := row_cell hC2.row (i := i) (v := .pointer (some ⟨p, 0, none⟩)) (by unfold ptrs; rw [List.getElem?_map, hp]; rfl)
      have e0 : (0 : Int) ≤ (i : Int) := by omega
      obtain ⟨l2, hl2⟩ : ∃ l2, l2 = R2.length := ⟨_, rfl⟩
      have e1 : (i : Int) < (l2 : Int) := by omega
      rw [← hl2] at d4
      have hkk : IntKind.i64.wrap ((i : Int) - 1) = (i : Int) - 1 := IntWalk.i64_in _ (by omega)
      obtain ⟨m, hm⟩ : ∃ m, m = x.many := ⟨_, rfl⟩
      rw [← hm] at p2
      by_cases hm0 : m = 0
      · subst hm0
        have hgv : (x.pg, C.order) ∈ delK C.order L (C.sl.drop (i + 1)) := (HX.out.2.2.2.2.1 (i + 1) (by have := HX.out.2.1; omega)).giv x (List.mem_of_getElem? hx2)
        obtain ⟨e', he'⟩ : ∃ e' : Nat, e' + 1 = emptyS (slK C.sl (i + 1)) := by
          have := empty_erase hx2
          rw [if_pos hm.symm] at this
          exact ⟨_, this⟩
        have he3 : e' ≤ 1024 := by
          have := empty_slK C.sl (i + 1)
          have := HX.out.2.2.2.2.2
          omega
        have hC3 : CacheAt wr own c b { C with sl := slK C.sl (i + 1) } (e' + 1) (some ⟨g, 0, none⟩) cap2 R2 := by rw [he']; exact hC2
        have hgive := give_ok wr own c b i { C with sl := slK C.sl (i + 1) } e' (some ⟨g, 0, none⟩) cap2 R2 N (delK C.order L (C.sl.drop (i + 1))) x hC3 hH.bu hx2 hgv he3
        have HG := Lib.hid hgive
        have HS := Lib.hid (And.intro hH (And.intro hKp (And.intro hx (And.intro hx2 (And.intro hm he')))))
        clear hgive hH hKp hx hx2 hm he' hC2 hC3 hs hp hil hl2 hgv
        go_wp2_with (go_at_call 37; refine HG.out.mono ?_; rintro e w' ⟨rfl, hC', hB', hK'⟩; have H5 := Lib.hid (And.intro hC' (And.intro hB' hK')); clear hC' hB' hK')
        go_roundw
        case rel =>
          refine ⟨i, (i : Int) - 1, by omega, by omega, rfl, ?_⟩
          obtain ⟨hC', hB', hK'⟩ := H5.out
          obtain ⟨hH, hKp, hx, hx2, hm, he'⟩ := HS.out
          unfold TrimI
          rw [slK_gone hx hm.symm, delK_gone hx hm.symm]
          have hem : emptyS ((slK C.sl (i + 1)).eraseIdx i) = e' := by
            have := empty_erase hx2
            rw [if_pos hm.symm] at this
            omega
          have hok := HX.out.2.2.2.2.1 i (by have := HX.out.2.1; omega)
          rw [slK_gone hx hm.symm, delK_gone hx hm.symm] at hok
          refine ⟨⟨⟨some ⟨g, 0, none⟩, cap2, R2.eraseIdx i, ?_⟩, hB', hok, hH.fresh.keeps hK'⟩, hKp.trans hK'⟩
          show CacheAt _ own c b _ (emptyS ((slK C.sl (i + 1)).eraseIdx i)) _ _ _
          rw [hem]
          exact hC'
        case measure => simp [intOf]
      · have t1 : ((m : Int) == 0) = false := by rw [beq_eq_false_iff_ne]; omega
        have HS := Lib.hid (TrimI.keep (And.intro hH hKp) hx (by rw [← hm]; exact hm0))
        clear hH hKp hx hx2 hm hC2 hs hp hil hl2 hm0
        go_wp2
        go_roundw
        case rel => exact ⟨i, (i : Int) - 1, by omega, by omega, rfl, HS.out⟩
        case measure => simp [intOf]
    · obtain rfl : k = 0 := by omega
      obtain rfl : z = -1 := by omega
      have HI := Lib.hid hI
      clear hI
      go_wp2
      go_ret2
      obtain ⟨h1, h2⟩ := HI.out
      rw [slK_zero, List.drop_zero] at h1
      rw [← HX.out.2.2.1]
      exact ⟨rfl, h1, h2⟩
end Sl
end Go.Proofs.Ytlknhbcambdccaa
namespace Go.Proofs.Ytlknhbcambdccaa
open Go.RowKit Go.Shelf
namespace Sl
open Bu
attribute [local go_sem] Oper.semAt_some

def n64 (l : List Nat) : List Value := l.map fun i : Nat => Value.int .i64 (i : Int)
theorem i64_info : (Try.prog.info? 2).map (fun i => (i.zero.isSome, i.zero.map (fun z => z.cells.size), i.size, i.bytes)) = some (true, some 1, 1, 8) := by kernel_rfl

/-- The caller's variable, and its row. -/
def Out64 (bo : Nat) (own : Ow) (pre : List Nat) (V : World) : Prop :=
  ∃ A c, Boxed V bo 48 (.slice A pre.length c) ∧ V.ownsRow bo 2 1 (.slice A pre.length c) pre.length (n64 pre) ∧ own bo ≠ none ∧ ∀ g, (Value.slice A pre.length c).ownBlock = some g → own g ≠ none

theorem out64_keep {bo : Nat} {own : Ow} {L : List Nat} {V V' : World} (h : Out64 bo own L V) (hk : ∀ x, own x ≠ none → x < V.heap.size → V'.heap[x]? = V.heap[x]?) : Out64 bo own L V' := by
  obtain ⟨A, c, hb, hr, ho, hg⟩ := h
  refine ⟨A, c, (hk _ ho hb.lt).trans hb, ⟨hr.1, ?_⟩, ho, hg⟩
  rcases hr.2 with hn | ⟨g, cap, cur, e, hB, hgg, rest⟩
  · exact .inl hn
  · exact .inr ⟨g, cap, cur, e, hB, by rw [hk g (hg g (by rw [e]; rfl)) (lt_of_heap hgg)]; exact hgg, rest⟩

theorem out64_step {bo : Nat} {own : Ow} {pre : List Nat} {V w1 : World} {x : Nat} {A : Option Addr} {c : Nat} {ob : Obj} {v' : Value}
    (hb : Boxed V bo 48 (.slice A pre.length c)) (hr : V.ownsRow bo 2 1 (.slice A pre.length c) pre.length (n64 pre)) (ho : own bo ≠ none) (hg : ∀ g, (Value.slice A pre.length c).ownBlock = some g → own g ≠ none)
    (hown : w1.ownsRow bo 2 1 v' (pre.length + 1) (n64 pre ++ [.int .i64 (x : Int)])) (hgrow : (V.alloc ob).grownBy w1 (Value.slice A pre.length c).ownBlock)
    (hat : v'.ownBlock = (Value.slice A pre.length c).ownBlock ∨ v'.ownBlock = some (V.alloc ob).heap.size) :
    ∃ own', Bu.Keeps own own' V (w1.setCell ⟨bo, 0, none⟩ v') ∧ Out64 bo own' (pre ++ [x]) (w1.setCell ⟨bo, 0, none⟩ v') := by
  have hbl := hb.lt
  obtain ⟨h1, h2, h3, _, h5⟩ := hb.appended (by decide) hr (Nat.le_of_lt hbl) (Nat.le_refl bo) hown hgrow
  obtain ⟨gg, cap, rfl⟩ := ownsRow_succ hown
  have hgs := hgrow.size
  simp at hgs
  refine ⟨fun y => if V.heap.size ≤ y ∧ y = gg then some 0 else own y, ⟨h5.os, h5.tape, h5.output, ?_, fun y hy hn => ?_, fun y hy => ?_, fun y hy => ?_⟩, some ⟨gg, 0, none⟩, cap, by simpa using h2, ?_, ?_, fun g hg' => ?_⟩
  · rw [setCell_size]; omega
  · rw [setCell_far _ _ _ _ (fun e => by rw [e] at hn; exact ho hn), hgrow.block y (by simp; omega) (fun e => hg y e.symm hn)]
    exact Below.heap_alloc _ _ _ hy
  · show (if V.heap.size ≤ y ∧ y = gg then some 0 else own y) = own y
    rw [if_neg (by omega)]
  · by_cases e : V.heap.size ≤ y ∧ y = gg
    · right
      refine ⟨e.1, ?_⟩
      rw [setCell_size, e.2]
      exact (hown.lt gg rfl).2
    · left
      rwa [if_neg e] at hy
  · have : n64 (pre ++ [x]) = n64 pre ++ [.int .i64 (x : Int)] := by simp [n64]
    rw [this]; simpa using h3
  · show (if V.heap.size ≤ bo ∧ bo = gg then some 0 else own bo) ≠ none
    rw [if_neg (by omega)]; exact ho
  · obtain rfl : gg = g := by simpa [Value.ownBlock] using hg'
    show (if V.heap.size ≤ gg ∧ gg = gg then some 0 else own gg) ≠ none
    by_cases e : V.heap.size ≤ gg
    · rw [if_pos ⟨e, rfl⟩]; simp
    · rw [if_neg (by omega)]
      rcases hat with hat | hat
      · exact hg gg hat.symm
      · simp [Value.ownBlock] at hat; omega

theorem objects0_ok (w : World) (c : Nat) :
    Calls Try.prog 49 #[.pointer (some ⟨c, 0, none⟩)] w fun e w' => e = .returned (.func (.func 78) #[] #[.pointer (some ⟨w.heap.size, 0, none⟩)]) ∧
      w' = w.alloc (.cells #[.pointer (some ⟨c, 0, none⟩)] 22) := by
  go_enter Try.func49, Try.ntmps49
  go_wp2
  go_ret
  exact ⟨rfl, rfl⟩

set_option maxRecDepth 100000 in
set_option maxHeartbeats 4000000 in
theorem objects_ok (w : World) (own : Own?) (c b : Nat) (C : Ca) (N : Nat) (L : List Blk) (H : Held w own c b C N L) :
    Calls Try.prog 19 #[.pointer (some ⟨c, 0, none⟩)] w fun e w' => (∃ A cp, e = .returned (.tuple #[.slice A (objC C).length cp, .int .i64 0]) ∧ w'.ownsRow w.heap.size 2 1 (.slice A (objC C).length cp) (objC C).length (n64 (objC C))) ∧ Below w.heap.size w w' := by
  obtain ⟨A0, cap, R, hC⟩ := H.at_
  obtain ⟨c0, _⟩ := six_cells hC.cell
  have HD := Lib.hid (dead_ok w c (some ⟨b, 0, none⟩) c0)
  have HX := Lib.hid (And.intro hC (And.intro H.ok H.fresh))
  clear hC H c0
  refine (callsIn_wide (n := 8)).1 ?_
  refine callsIn_of_wp_marks Try.func19 rfl trivial ?_ rfl
  simp only [Try.ntmps19, List.size_toArray, List.length_cons, List.length_nil, Nat.reduceAdd, Nat.reduceSub, Array.replicate_succ, Array.replicate_zero, List.push_toArray, List.append_toArray, List.nil_append, List.cons_append]
  refine wpIn_wide.2 ?_
  go_wp2_with (first | (go_at_call 34; refine HD.out.mono ?_; rintro e w' ⟨rfl, rfl⟩) | (go_at_call 49; refine (objects0_ok _ _).mono ?_; rintro e w' ⟨rfl, rfl⟩))
  refine (wpIn_wide (n := 8)).1 ?_
  obtain ⟨i0, z0, hi0, hz0, hz1, hz2, hz3⟩ := info_open i64_info
  have s0 : (((w.alloc (.cells #[.slice none 0 0] 48)).alloc (.cells #[.pointer (some ⟨c, 0, none⟩)] 22))).heap.size = w.heap.size + 2 := by simp
  have hb0 : Below w.heap.size w ((w.alloc (.cells #[.slice none 0 0] 48)).alloc (.cells #[.pointer (some ⟨c, 0, none⟩)] 22)) := ((Below.refl _ _).alloc (Nat.le_refl _) _).alloc (by simp) _
  have bO : Boxed ((w.alloc (.cells #[.slice none 0 0] 48)).alloc (.cells #[.pointer (some ⟨c, 0, none⟩)] 22)) w.heap.size 48 (.slice none 0 0) := (Boxed.new w 48 (.slice none 0 0)).alloc _
  have b1 : ((w.alloc (.cells #[.slice none 0 0] 48)).alloc (.cells #[.pointer (some ⟨c, 0, none⟩)] 22)).cell? ⟨w.heap.size + 1, 0, none⟩ = some (.pointer (some ⟨c, 0, none⟩)) := by
    simp
  generalize ((w.alloc (.cells #[.slice none 0 0] 48)).alloc (.cells #[.pointer (some ⟨c, 0, none⟩)] 22)) = W0 at *
  obtain ⟨own0, hown⟩ : ∃ own0 : Ow, ∀ x, own0 x = if x = w.heap.size then some 0 else own x := ⟨fun x => if x = w.heap.size then some 0 else own x, fun _ => rfl⟩
  have hnew : ∀ k, w.heap.size ≤ k → own k = none := fun k hk => by
    refine Classical.byContradiction fun hn => ?_
    have := HX.out.2.2 k hn
    omega
  have HO := Lib.hid hown
  have HB := Lib.hid hb0
  have HN := Lib.hid hnew
  clear hown hb0 hnew
  refine rangeZ (I := fun own2 pre V => Out64 w.heap.size own2 pre V ∧ (∀ z, own z ≠ none → own2 z ≠ none ∧ V.heap[z]? = w.heap[z]?) ∧ (∀ z, own2 z ≠ none → own z ≠ none ∨ w.heap.size ≤ z) ∧ w.heap.size ≤ V.heap.size) (Ix := fun _ _ _ _ => False)
    rfl (by omega) (gf := 78) (lb := #[.pointer (some ⟨w.heap.size + 1, 0, none⟩)]) rfl trivial (enters_of Try.func78 (by kernel_rfl) rfl)
    (objseq (8 - 1) (by omega) (w.heap.size + 1) c b cap _ own C N L HX.out.2.1 A0 R w HX.out.1) own0 ?hf0 ?hD ?hR (fun _ => rfl) ?hE ?hI (fun _ _ _ _ _ h _ _ => h) ?h0 ?a1 ?assign ?body ?done ?stop
  case hf0 =>
    intro x hx
    rw [HO.out] at hx
    by_cases e : x = w.heap.size
    · omega
    · rw [if_neg e] at hx
      have := HX.out.2.2 x hx
      omega
  case hD =>
    intro V hV
    exact ⟨by have := hV.size; omega, (hV.cell (p := ⟨w.heap.size + 1, 0, none⟩) (show w.heap.size + 1 < W0.heap.size by omega)).trans b1⟩
  case hR =>
    rintro x rfl
    exact ⟨by rw [HO.out, if_neg (by omega)]; exact HN.out _ (by omega), by omega⟩
  case hE =>
    rintro own2 pre V ⟨_, h, _⟩ z hz
    exact (h z hz).2
  case hI =>
    rintro own2 pre V V' ⟨h1, h2, h3, h4⟩ hs hk
    exact ⟨out64_keep h1 hk, fun z hz => ⟨(h2 z hz).1, (hk z (h2 z hz).1 (by have := HX.out.2.2 z hz; omega)).trans (h2 z hz).2⟩, h3, by omega⟩
  case h0 =>
    refine ⟨⟨none, 0, bO, World.ownsRow_nil _ _ _ _, by rw [HO.out, if_pos rfl]; simp, fun g hg => by cases hg⟩, fun z hz => ⟨?_, ?_⟩, fun z hz => ?_, by omega⟩
    · rw [HO.out]; split
      · simp
      · exact hz
    · exact HB.out.block z (HX.out.2.2 z hz)
    · rw [HO.out] at hz
      by_cases e : z = w.heap.size
      · exact .inr (by omega)
      · rw [if_neg e] at hz; exact .inl hz
  case assign =>
    intro l x V K hK
    gi_wp2
    exact hK
  case body =>
    rintro l own2 pre x V ⟨⟨A, cp, hb, hr, ho, hg⟩, hz, hz2, hz4⟩ hf2 hlen
    have hbc := hb.cell
    have hbf := hb.frozen
    have hbl := hb.lt
    have HE := Lib.hid (And.intro hb (And.intro ho (And.intro hg (And.intro hz (And.intro hz2 hf2)))))
    clear hb ho hg hz hz2 hf2
    gi_wp2_with (gi_at_builtin; refine wpListIn_append_own_at _ rfl _ _ 48 rfl w.heap.size 2 i0 z0 1 8 Try.underlying48 hi0 hz0 hz1 hz2 hz3 (by omega) (.slice A pre.length cp) pre.length (n64 pre) rfl (hr.alloc _) ⟨V.heap.size, 0, none⟩ 1 1 [.int .i64 (x : Int)] rfl rfl (cell_one_new _ _ _) (by simp [Value.oneCell']) (by unfold maxLen; omega) (by omega) (by simp; omega) ?_
                 intro v' w1 hown' hgrow _ hat
                 obtain ⟨own3, hk3, ho3⟩ := out64_step HE.out.1 hr HE.out.2.1 HE.out.2.2.1 hown' hgrow hat
                 obtain ⟨g', cap', rfl⟩ := ownsRow_succ hown'
                 have hc1 : w1.cell? ⟨w.heap.size, 0, none⟩ = some (.slice A pre.length cp) := (HE.out.1.appended (by decide) hr (by omega) (Nat.le_refl _) hown' hgrow).1.cell
                 have hf1 : w1.frozen? ⟨w.heap.size, 0, none⟩ = false := (HE.out.1.appended (by decide) hr (by omega) (Nat.le_refl _) hown' hgrow).1.frozen
                 have H3 := Lib.hid (And.intro hk3 (And.intro ho3 hgrow))
                 clear hk3 ho3 hgrow)
    refine ⟨own3, H3.out.1, H3.out.2.1, fun z hz => ?_, fun z hz => ?_, by have := H3.out.1.size; omega⟩
    · have h1 := HX.out.2.2 z hz
      have h2 := HE.out.2.2.2.1 z hz
      have h3 : z < V.heap.size := HE.out.2.2.2.2.2 z h2.1
      refine ⟨by rw [H3.out.1.same z h3]; exact h2.1, ?_⟩
      rw [setCell_far _ _ _ _ (by show z ≠ w.heap.size; omega), H3.out.2.2.block z (by rw [World.size_alloc]; omega) (fun e => by have := (hr.lt z e.symm).1; omega), alloc_old V _ z h3]
      exact h2.2
    · rcases H3.out.1.new z hz with h | h
      · exact HE.out.2.2.2.2.1 z h
      · exact .inr (by omega)
  case done =>
    rintro own2 xs V hS ⟨⟨A, cp, hb, hr, ho, hg⟩, hz, hz2, hz4⟩ hK hd hdv
    have hbc := hb.cell
    have HE := Lib.hid (And.intro hS (And.intro hr (And.intro hK (And.intro hdv hz))))
    clear hS hr hK hdv hb ho hg hz hz2
    go_wp2
    refine ⟨by simp, .inl ⟨_, _, rfl, run_takeDeferred HE.out.2.2.2.1, ?_⟩⟩
    refine ⟨_, results_tmp2 rfl _ _ _, ⟨A, cp, by rw [← HE.out.1]; rfl, by rw [← HE.out.1]; exact ownsRow_putObj HE.out.2.1 _ HE.out.2.2.2.1 rfl⟩, ?_⟩
    have hK := HE.out.2.2.1
    have hB := HB.out
    refine ⟨hK.os.trans hB.os, hK.tape.trans hB.tape, hK.output.trans hB.output, ?_, fun x hx => ?_⟩
    · have := hK.size; have := hB.size; simp; omega
    · have := hB.size
      rw [World.putObj_heap_other (by omega)]
      by_cases hox : own x = none
      · rw [hK.block x (by omega) (by rw [HO.out, if_neg (by omega)]; exact hox)]
        exact hB.block x hx
      · exact (HE.out.2.2.2.2 x hox).2
  case stop =>
    rintro _ _ _ _ _ h
    exact h.elim
end Sl
end Go.Proofs.Ytlknhbcambdccaa
namespace Go.Proofs.Ytlknhbcambdccaa
open Go.RowKit
namespace Sl
open Bu

theorem owner_nums (d s q : Nat) (hd : d ≤ 65536) (hs : 8 ≤ s) (hq : q = d / s) : wrap64 ((d : Int).tdiv (s : Int)) = (q : Int) ∧ (d : Int) / (s : Int) = (q : Int) ∧ wrap64 (q : Int) = (q : Int) := by
  have h1 := quo_w64 d s hd hs
  rw [← hq] at h1
  have h2 : (d : Int) / (s : Int) = ((d / s : Nat) : Int) := rfl
  rw [← hq] at h2
  have h4 : q ≤ d := by rw [hq]; exact Nat.div_le_self _ _
  refine ⟨h1, h2, ?_⟩
  clear h1 h2 hq
  rw [← w64]; exact IntWalk.i64_in _ (by omega)

set_option maxRecDepth 100000 in
set_option maxHeartbeats 4000000 in
theorem ownerS_out (w : World) (own : Own?) (c b : Nat) (C : Ca) (N : Nat) (L : List Blk) (H : Held w own c b C N L) (at_ : Int) (ha1 : -9223372036854775808 ≤ at_) (ha2 : at_ < 9223372036854775808) (j d : Nat) (hhit : holdS C.order 0 C.sl at_ = some (j, d)) (x : Slb) (hx : C.sl[j]? = some x) (hv : x.us[d / C.size]? = none) :
    Calls Try.prog 13 #[.pointer (some ⟨c, 0, none⟩), .int .i64 at_] w fun e w' => e = .returned (.tuple #[.int .i64 0, .bool false, .int .i64 4]) ∧ ∃ n, w' = w.drewN n := by
  obtain ⟨x', hx', hd, -, -, -, hul, hxp⟩ := hit_data H hhit
  obtain rfl : x = x' := by rw [hx] at hx'; injection hx'
  clear hx'
  obtain ⟨A, cap, R, hC⟩ := H.at_
  have hpg : ∀ x ∈ C.sl, x.pg ≤ 1024 := fun x hx => by
    have h2 : x.pg + 2 ^ C.order ≤ 1024 := (st_le H.ok.st _ (H.ok.giv x hx)).2
    have := pow_pos2 C.order
    omega
  have hh := holder_ok w own c b C _ A cap R hC hpg H.ok.od H.ok.sz.2.1 at_ ha1 ha2
  unfold HoldR at hh
  rw [hhit] at hh
  simp only at hh
  obtain ⟨p, hp⟩ : ∃ p, R[j]? = some p := ⟨_, List.getElem?_eq_getElem (by have := (List.getElem?_eq_some_iff.1 hx).1; have := hC.len; omega)⟩
  have hh2 : Calls Try.prog 35 #[.pointer (some ⟨c, 0, none⟩), .int .i64 at_] w fun e w' => e = .returned (.tuple #[.pointer (some ⟨p, 0, none⟩), .int .i64 (d : Int)]) ∧ ∃ n, w' = w.drewN n := by
    refine hh.mono ?_
    rintro e w' ⟨⟨p', hp', he⟩, hw⟩
    rw [hp] at hp'
    injection hp' with hp'
    subst hp'
    exact ⟨he, hw⟩
  obtain ⟨c0, _⟩ := six_cells hC.cell
  obtain ⟨u, uc, hs⟩ := hC.slab j p x hp hx
  have HD := Lib.hid (dead_ok w c (some ⟨b, 0, none⟩) c0)
  have HH := Lib.hid hh2
  have hsz : (C.size : Int) ≠ 0 := by have := H.ok.sz.1; omega
  have hq : ∀ w : World, (binOp .eql 97 (.pointer (some ⟨p, 0, none⟩)) (.pointer none)).run Try.prog w = .ok (.bool false) w := fun w => run_eql_ptr_nil Try.prog w 97 _ (some ⟨p, 0, none⟩) Try.underlying97
  have e0 : (0 : Int) ≤ (d : Int) := by omega
  have e1 : (0 : Int) ≤ (C.size : Int) := by omega
  have hsz8 := H.ok.sz.1
  have hsz1 := H.ok.sz.2.1
  obtain ⟨hcap1, hcap2, _⟩ := row_caps hs.row
  have hcap3 : uc ≤ 9223372036854775807 := by unfold maxLen at hcap2; exact hcap2
  obtain ⟨q, hqe⟩ : ∃ q, q = d / C.size := ⟨_, rfl⟩
  have hn4 := owner_nums d C.size q hd hsz8 hqe
  have HG := Lib.hid hn4
  clear hn4
  rw [← hqe] at hv
  have hpos := Lib.hid hqe
  clear hqe
  have hCc := Lib.hid hC.cell
  have hsc := Lib.hid hs.cell
  have hsr := Lib.hid hs.row
  have hlen : x.us.length ≤ q := List.getElem?_eq_none_iff.1 hv
  have HL := Lib.hid hlen
  clear hv hlen hh hh2 hpg hC H c0 hs hp hx hhit hcap2 hcap1
  go_enter Try.func13, Try.ntmps13
  go_wp2_with (go_at_call 34; refine HD.out.mono ?_; rintro e w' ⟨rfl, rfl⟩)
  refine HH.out.mono ?_
  rintro _ W2 ⟨rfl, dd, hW2⟩
  have hh3 : ∀ k : Nat, W2.heap[k]? = w.heap[k]? := fun k => by rw [hW2]; rfl
  obtain ⟨d0, d1, d2, _⟩ := three_cells ((hh3 p).trans hsc.out)
  obtain ⟨_, f1, _, _, _, _, _, _⟩ := six_cells ((hh3 c).trans hCc.out)
  obtain ⟨g1, g3, g5⟩ := HG.out
  have hqd : decide (x.us.length ≤ q) = true := decide_eq_true HL.out
  have hqe : x.us.length ≤ q := HL.out
  have H2 := Lib.hid hW2
  clear hW2 hh3
  go_upto_region 5 with (fail)
  clear g1 g3
  go_wp2
  exact bodyPost_ret (v := .tuple #[.int .i64 0, .bool false, .int .i64 4]) (by simp [results, Try.results13, go_sem]) rfl ⟨rfl, _, H2.out⟩

set_option maxRecDepth 100000 in
set_option maxHeartbeats 4000000 in
theorem ownerS_in (w : World) (own : Own?) (c b : Nat) (C : Ca) (N : Nat) (L : List Blk) (H : Held w own c b C N L) (at_ : Int) (ha1 : -9223372036854775808 ≤ at_) (ha2 : at_ < 9223372036854775808) (j d : Nat) (hhit : holdS C.order 0 C.sl at_ = some (j, d)) (x : Slb) (hx : C.sl[j]? = some x) (v : Bool) (hv : x.us[d / C.size]? = some v) :
    Calls Try.prog 13 #[.pointer (some ⟨c, 0, none⟩), .int .i64 at_] w fun e w' => e = .returned (.tuple #[.int .i64 (addrS C.size x (d / C.size) : Nat), .bool v, .int .i64 0]) ∧ ∃ n, w' = w.drewN n := by
  obtain ⟨x', hx', hd, -, -, -, hul, hxp⟩ := hit_data H hhit
  obtain rfl : x = x' := by rw [hx] at hx'; injection hx'
  clear hx'
  obtain ⟨A, cap, R, hC⟩ := H.at_
  have hpg : ∀ x ∈ C.sl, x.pg ≤ 1024 := fun x hx => by
    have h2 : x.pg + 2 ^ C.order ≤ 1024 := (st_le H.ok.st _ (H.ok.giv x hx)).2
    have := pow_pos2 C.order
    omega
  have hh := holder_ok w own c b C _ A cap R hC hpg H.ok.od H.ok.sz.2.1 at_ ha1 ha2
  unfold HoldR at hh
  rw [hhit] at hh
  simp only at hh
  obtain ⟨p, hp⟩ : ∃ p, R[j]? = some p := ⟨_, List.getElem?_eq_getElem (by have := (List.getElem?_eq_some_iff.1 hx).1; have := hC.len; omega)⟩
  have hh2 : Calls Try.prog 35 #[.pointer (some ⟨c, 0, none⟩), .int .i64 at_] w fun e w' => e = .returned (.tuple #[.pointer (some ⟨p, 0, none⟩), .int .i64 (d : Int)]) ∧ ∃ n, w' = w.drewN n := by
    refine hh.mono ?_
    rintro e w' ⟨⟨p', hp', he⟩, hw⟩
    rw [hp] at hp'
    injection hp' with hp'
    subst hp'
    exact ⟨he, hw⟩
  obtain ⟨c0, _⟩ := six_cells hC.cell
  obtain ⟨u, uc, hs⟩ := hC.slab j p x hp hx
  have HD := Lib.hid (dead_ok w c (some ⟨b, 0, none⟩) c0)
  have HH := Lib.hid hh2
  have hsz : (C.size : Int) ≠ 0 := by have := H.ok.sz.1; omega
  have hq : ∀ w : World, (binOp .eql 97 (.pointer (some ⟨p, 0, none⟩)) (.pointer none)).run Try.prog w = .ok (.bool false) w := fun w => run_eql_ptr_nil Try.prog w 97 _ (some ⟨p, 0, none⟩) Try.underlying97
  have e0 : (0 : Int) ≤ (d : Int) := by omega
  have e1 : (0 : Int) ≤ (C.size : Int) := by omega
  have hsz8 := H.ok.sz.1
  have hsz1 := H.ok.sz.2.1
  obtain ⟨hcap1, hcap2, _⟩ := row_caps hs.row
  have hcap3 : uc ≤ 9223372036854775807 := by unfold maxLen at hcap2; exact hcap2
  obtain ⟨q, hqe⟩ : ∃ q, q = d / C.size := ⟨_, rfl⟩
  have hn4 := owner_nums d C.size q hd hsz8 hqe
  have HG := Lib.hid hn4
  clear hn4
  rw [← hqe] at hv ⊢
  have hpos := Lib.hid hqe
  clear hqe
  have hCc := Lib.hid hC.cell
  have hsc := Lib.hid hs.cell
  have hsr := Lib.hid hs.row
  have hql : q < x.us.length := (List.getElem?_eq_some_iff.1 hv).1
  have e2 : (0 : Int) ≤ (q : Int) := by omega
  have e3 : (q : Int) < (x.us.length : Int) := by omega
  have hq128 : q ≤ 1024 := by omega
  have HL := Lib.hid hv
  obtain ⟨ad, had⟩ : ∃ ad : Nat, ad = 64 * x.pg + q * C.size := ⟨_, rfl⟩
  have hadr : ∀ W : World, W.cell? ⟨c, 1, none⟩ = some (.int .i64 (C.size : Int)) → W.cell? ⟨p, 0, none⟩ = some (.int .i64 (x.pg : Int)) → Calls Try.prog 43 #[.pointer (some ⟨c, 0, none⟩), .pointer (some ⟨p, 0, none⟩), .int .i64 (q : Int)] W fun e w' => e = .returned (.int .i64 (ad : Int)) ∧ ∃ n, w' = W.drewN n := fun W h1 h2 => by
    have := address_ok W c p C.size x.pg q h1 h2 hsz1 hxp hq128
    rw [← had] at this
    exact this
  have HAd := Lib.hid hadr
  have hadv : (addrS C.size x q : Nat) = ad := had.symm
  rw [hadv]
  clear hv hh hh2 hpg hC H c0 hs hp hx hhit hcap2 hcap1 had hadv hadr
  go_enter Try.func13, Try.ntmps13
  go_wp2_with (go_at_call 34; refine HD.out.mono ?_; rintro e w' ⟨rfl, rfl⟩)
  refine HH.out.mono ?_
  rintro _ W2 ⟨rfl, dd, hW2⟩
  have hh3 : ∀ k : Nat, W2.heap[k]? = w.heap[k]? := fun k => by rw [hW2]; rfl
  obtain ⟨d0, d1, d2, _⟩ := three_cells ((hh3 p).trans hsc.out)
  obtain ⟨_, f1, _, _, _, _, _, _⟩ := six_cells ((hh3 c).trans hCc.out)
  obtain ⟨g1, g3, g5⟩ := HG.out
  have hqd : decide (x.us.length ≤ q) = false := by rw [decide_eq_false_iff_not]; exact Nat.not_le.2 hql
  have hqe : ¬ x.us.length ≤ q := Nat.not_le.2 hql
  have hrU : W2.ownsRow 0 4 1 (.slice (some ⟨u, 0, none⟩) x.us.length uc) x.us.length (bcells x.us) := row_same hsr.out fun g _ => hh3 g
  have u1 := row_cell hrU (i := q) (v := .bool v) (by rw [bcells_get, HL.out]; rfl)
  have HA2 := Lib.hid (fun n => HAd.out (W2.drewN n) f1 d0)
  have H2 := Lib.hid hW2
  clear hW2 hh3 hrU
  go_upto_region 5 with (fail)
  clear g1 g3
  go_wp2_with (fail)
  trace "Q"
  go_quiet ((go_at_call 43; exact Calls.quiet_of (HA2.out _)))
  go_wp2
  exact bodyPost_ret (v := .tuple #[.int .i64 (ad : Int), .bool v, .int .i64 0]) (by simp [results, Try.results13, go_sem]) rfl ⟨rfl, _, by rw [H2.out]; exact World.drewN_drewN ..⟩

theorem ownerS_ok (w : World) (own : Own?) (c b : Nat) (C : Ca) (N : Nat) (L : List Blk) (H : Held w own c b C N L) (at_ : Int) (ha1 : -9223372036854775808 ≤ at_) (ha2 : at_ < 9223372036854775808) :
    Calls Try.prog 13 #[.pointer (some ⟨c, 0, none⟩), .int .i64 at_] w fun e w' => e = .returned (match ownerC C at_ with | none => .tuple #[.int .i64 0, .bool false, .int .i64 4] | some (a, v) => .tuple #[.int .i64 (a : Int), .bool v, .int .i64 0]) ∧ ∃ n, w' = w.drewN n := by
  unfold ownerC
  cases hh : holdS C.order 0 C.sl at_ with
  | none => exact ownerS_none w own c b C N L H at_ ha1 ha2 hh
  | some jd =>
    obtain ⟨j, d⟩ := jd
    obtain ⟨x, hx, _⟩ := hit_data H hh
    simp only [hx]
    cases hv : x.us[d / C.size]? with
    | none => exact ownerS_out w own c b C N L H at_ ha1 ha2 j d hh x hx hv
    | some v => exact ownerS_in w own c b C N L H at_ ha1 ha2 j d hh x hx v hv
end Sl
end Go.Proofs.Ytlknhbcambdccaa
