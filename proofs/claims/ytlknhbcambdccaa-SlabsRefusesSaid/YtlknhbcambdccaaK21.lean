/- Free of a cache: the refused calls, and all calls. Slabs, plain: Trim. Trim of a cache. Owner of a cache where a slab has the address. -/
import Derived.Test.YtlknhbcambdccaaK20
import Derived.Test.YtlknhbcambdccaaK18
namespace Go.Proofs.Ytlknhbcambdccaa
open Go.RowKit
namespace Sl
open Bu

set_option maxRecDepth 100000 in
set_option maxHeartbeats 4000000 in
theorem freeS_bad2 (w : World) (own : Own?) (c b : Nat) (C : Ca) (N : Nat) (L : List Blk) (H : Held w own c b C N L) (at_ : Int) (ha1 : -9223372036854775808 ≤ at_) (ha2 : at_ < 9223372036854775808) (j d : Nat) (hhit : holdS C.order 0 C.sl at_ = some (j, d)) (hmod : d % C.size = 0) (hbad : ∀ x, C.sl[j]? = some x → x.us.length ≤ d / C.size) :
    Calls Try.prog 11 #[.pointer (some ⟨c, 0, none⟩), .int .i64 at_] w fun e w' => e = .returned (.int .i64 4) ∧ Below w.heap.size w w' := by
  obtain ⟨x, hx, hd, -, -, -, hul, -⟩ := hit_data H hhit
  obtain ⟨W1, hW1⟩ : ∃ W1, W1 = w.alloc (.cells #[.pointer (some ⟨c, 0, none⟩)] 22) := ⟨_, rfl⟩
  have hb1 : Below w.heap.size w W1 := by rw [hW1]; exact below_box w _
  have hB1 : W1.heap[w.heap.size]? = some (.cells #[.pointer (some ⟨c, 0, none⟩)] 22 (0, 0)) := by rw [hW1, heapAlloc, if_pos rfl]
  obtain ⟨A, cap, R, hC⟩ := (H.below hb1).at_
  have hpg : ∀ x ∈ C.sl, x.pg ≤ 1024 := fun x hx => by
    have h2 : x.pg + 2 ^ C.order ≤ 1024 := (st_le H.ok.st _ (H.ok.giv x hx)).2
    have := pow_pos2 C.order
    omega
  have hh := holder_ok W1 own c b C _ A cap R hC hpg H.ok.od H.ok.sz.2.1 at_ ha1 ha2
  unfold HoldR at hh
  rw [hhit] at hh
  simp only at hh
  obtain ⟨p, hp⟩ : ∃ p, R[j]? = some p := ⟨_, List.getElem?_eq_getElem (by have := (List.getElem?_eq_some_iff.1 hx).1; have := hC.len; omega)⟩
  have hh2 : Calls Try.prog 35 #[.pointer (some ⟨c, 0, none⟩), .int .i64 at_] W1 fun e w' => e = .returned (.tuple #[.pointer (some ⟨p, 0, none⟩), .int .i64 (d : Int)]) ∧ ∃ n, w' = W1.drewN n := by
    refine hh.mono ?_
    rintro e w' ⟨⟨p', hp', he⟩, hw⟩
    rw [hp] at hp'
    injection hp' with hp'
    subst hp'
    exact ⟨he, hw⟩
  obtain ⟨c0, c1, _, _, _, _, _, _⟩ := six_cells hC.cell
  obtain ⟨u, uc, hs⟩ := hC.slab j p x hp hx
  obtain ⟨p0, p1, p2, _⟩ := three_cells hs.cell
  obtain ⟨bx, _⟩ := Bu.one_cell hB1
  have HD := Lib.hid (dead_ok W1 c (some ⟨b, 0, none⟩) c0)
  have HH := Lib.hid hh2
  have hsz : (C.size : Int) ≠ 0 := by have := H.ok.sz.1; omega
  have hq : ∀ w : World, (binOp .eql 97 (.pointer (some ⟨p, 0, none⟩)) (.pointer none)).run Try.prog w = .ok (.bool false) w := fun w => run_eql_ptr_nil Try.prog w 97 _ (some ⟨p, 0, none⟩) Try.underlying97
  have e0 : (0 : Int) ≤ (d : Int) := by omega
  have e1 : (0 : Int) ≤ (C.size : Int) := by omega
  obtain ⟨q, hqe⟩ : ∃ q, q = d / C.size := ⟨_, rfl⟩
  have HG := Lib.hid (free_nums d C.size q hd H.ok.sz.1 hqe hmod)
  have hbad := hbad x hx
  rw [← hqe] at hbad
  have HQ := Lib.hid hbad
  clear hqe hmod
  have HP := Lib.hid hs.cell
  have HC6 := Lib.hid hC.cell
  have HBX := Lib.hid hB1
  have HB := Lib.hid hb1
  have HW := Lib.hid hW1
  clear hh hh2 hpg hC H c0 hb1 hB1 hW1 hs hp hx hhit hbad
  go_enter Try.func11, Try.ntmps11
  go_wp2_with (go_at_call 34; fail)
  rw [← HW.out]
  refine HD.out.mono ?_
  rintro e w' ⟨rfl, rfl⟩
  go_wp2_with (go_at_call 35; fail)
  refine HH.out.mono ?_
  rintro _ W2 ⟨rfl, dd, hW2⟩
  have hh3 : ∀ k : Nat, W2.heap[k]? = W1.heap[k]? := fun k => by rw [hW2]; rfl
  obtain ⟨d0, d1, d2, _⟩ := three_cells ((hh3 p).trans HP.out)
  obtain ⟨_, f1, _, _, _, _, _, _⟩ := six_cells ((hh3 c).trans HC6.out)
  obtain ⟨bx2, _⟩ := Bu.one_cell ((hh3 _).trans HBX.out)
  obtain ⟨g1, g3, g4, g5⟩ := HG.out
  have hqd : decide (x.us.length ≤ q) = true := decide_eq_true HQ.out
  have hqe : x.us.length ≤ q := HQ.out
  have H2 := Lib.hid hW2
  clear hW2 hh3
  go_wp2
  go_ret
  refine ⟨rfl, ?_⟩
  rw [H2.out]
  exact below_drewN HB.out _

set_option maxRecDepth 100000 in
set_option maxHeartbeats 4000000 in
theorem freeS_down (w : World) (own : Own?) (c b : Nat) (C : Ca) (N : Nat) (L : List Blk) (H : Held w own c b C N L) (at_ : Int) (ha1 : -9223372036854775808 ≤ at_) (ha2 : at_ < 9223372036854775808) (j d : Nat) (hhit : holdS C.order 0 C.sl at_ = some (j, d)) (hmod : d % C.size = 0) (hbad : ∃ x, C.sl[j]? = some x ∧ x.us[d / C.size]? = some false) :
    Calls Try.prog 11 #[.pointer (some ⟨c, 0, none⟩), .int .i64 at_] w fun e w' => e = .returned (.int .i64 9) ∧ Below w.heap.size w w' := by
  obtain ⟨x, hx, hd, -, -, -, hul, -⟩ := hit_data H hhit
  obtain ⟨W1, hW1⟩ : ∃ W1, W1 = w.alloc (.cells #[.pointer (some ⟨c, 0, none⟩)] 22) := ⟨_, rfl⟩
  have hb1 : Below w.heap.size w W1 := by rw [hW1]; exact below_box w _
  have hB1 : W1.heap[w.heap.size]? = some (.cells #[.pointer (some ⟨c, 0, none⟩)] 22 (0, 0)) := by rw [hW1, heapAlloc, if_pos rfl]
  obtain ⟨A, cap, R, hC⟩ := (H.below hb1).at_
  have hpg : ∀ x ∈ C.sl, x.pg ≤ 1024 := fun x hx => by
    have h2 : x.pg + 2 ^ C.order ≤ 1024 := (st_le H.ok.st _ (H.ok.giv x hx)).2
    have := pow_pos2 C.order
    omega
  have hh := holder_ok W1 own c b C _ A cap R hC hpg H.ok.od H.ok.sz.2.1 at_ ha1 ha2
  unfold HoldR at hh
  rw [hhit] at hh
  simp only at hh
  obtain ⟨p, hp⟩ : ∃ p, R[j]? = some p := ⟨_, List.getElem?_eq_getElem (by have := (List.getElem?_eq_some_iff.1 hx).1; have := hC.len; omega)⟩
  have hh2 : Calls Try.prog 35 #[.pointer (some ⟨c, 0, none⟩), .int .i64 at_] W1 fun e w' => e = .returned (.tuple #[.pointer (some ⟨p, 0, none⟩), .int .i64 (d : Int)]) ∧ ∃ n, w' = W1.drewN n := by
    refine hh.mono ?_
    rintro e w' ⟨⟨p', hp', he⟩, hw⟩
    rw [hp] at hp'
    injection hp' with hp'
    subst hp'
    exact ⟨he, hw⟩
  obtain ⟨c0, c1, _, _, _, _, _, _⟩ := six_cells hC.cell
  obtain ⟨u, uc, hs⟩ := hC.slab j p x hp hx
  obtain ⟨p0, p1, p2, _⟩ := three_cells hs.cell
  obtain ⟨bx, _⟩ := Bu.one_cell hB1
  have HD := Lib.hid (dead_ok W1 c (some ⟨b, 0, none⟩) c0)
  have HH := Lib.hid hh2
  have hsz : (C.size : Int) ≠ 0 := by have := H.ok.sz.1; omega
  have hq : ∀ w : World, (binOp .eql 97 (.pointer (some ⟨p, 0, none⟩)) (.pointer none)).run Try.prog w = .ok (.bool false) w := fun w => run_eql_ptr_nil Try.prog w 97 _ (some ⟨p, 0, none⟩) Try.underlying97
  have e0 : (0 : Int) ≤ (d : Int) := by omega
  have e1 : (0 : Int) ≤ (C.size : Int) := by omega
  obtain ⟨q, hqe⟩ : ∃ q, q = d / C.size := ⟨_, rfl⟩
  have HG := Lib.hid (free_nums d C.size q hd H.ok.sz.1 hqe hmod)
  have hbad : x.us[d / C.size]? = some false := by obtain ⟨x', h1, h2⟩ := hbad; rw [hx] at h1; injection h1 with h1; rw [h1]; exact h2
  rw [← hqe] at hbad
  have hql : q < x.us.length := (List.getElem?_eq_some_iff.1 hbad).1
  have e2 : (0 : Int) ≤ (q : Int) := by omega
  have e3 : (q : Int) < (x.us.length : Int) := by omega
  obtain ⟨hcap1, hcap2, _⟩ := row_caps hs.row
  have hcap3 : uc ≤ 9223372036854775807 := by unfold maxLen at hcap2; exact hcap2
  have HR := Lib.hid hs.row
  have HQ := Lib.hid hbad
  clear hqe hmod
  have HP := Lib.hid hs.cell
  have HC6 := Lib.hid hC.cell
  have HBX := Lib.hid hB1
  have HB := Lib.hid hb1
  have HW := Lib.hid hW1
  clear hh hh2 hpg hC H c0 hb1 hB1 hW1 hs hp hx hhit hbad
  go_enter Try.func11, Try.ntmps11
  go_wp2_with (go_at_call 34; fail)
  rw [← HW.out]
  refine HD.out.mono ?_
  rintro e w' ⟨rfl, rfl⟩
  go_wp2_with (go_at_call 35; fail)
  refine HH.out.mono ?_
  rintro _ W2 ⟨rfl, dd, hW2⟩
  have hh3 : ∀ k : Nat, W2.heap[k]? = W1.heap[k]? := fun k => by rw [hW2]; rfl
  obtain ⟨d0, d1, d2, _⟩ := three_cells ((hh3 p).trans HP.out)
  obtain ⟨_, f1, _, _, _, _, _, _⟩ := six_cells ((hh3 c).trans HC6.out)
  obtain ⟨bx2, _⟩ := Bu.one_cell ((hh3 _).trans HBX.out)
  obtain ⟨g1, g3, g4, g5⟩ := HG.out
  have hqd : decide (x.us.length ≤ q) = false := by rw [decide_eq_false_iff_not]; exact Nat.not_le.2 hql
  have hqe : ¬ x.us.length ≤ q := Nat.not_le.2 hql
  have hrU : W2.ownsRow 0 4 1 (.slice (some ⟨u, 0, none⟩) x.us.length uc) x.us.length (bcells x.us) := row_same HR.out fun g _ => hh3 g
  have u1 := row_cell hrU (i := q) (v := .bool false) (by rw [bcells_get, HQ.out]; rfl)
  have H2 := Lib.hid hW2
  clear hW2 hh3 hrU
  go_wp2
  go_ret
  refine ⟨rfl, ?_⟩
  rw [H2.out]
  exact below_drewN HB.out _

theorem freeS_ok (w : World) (own : Own?) (c b : Nat) (C : Ca) (N : Nat) (L : List Blk) (H : Held w own c b C N L) (at_ : Int) (ha1 : -9223372036854775808 ≤ at_) (ha2 : at_ < 9223372036854775808) :
    Calls Try.prog 11 #[.pointer (some ⟨c, 0, none⟩), .int .i64 at_] w fun e w' => FreeS own c b C N L at_ w e w' := by
  have refused : ∀ n : Nat, freeC C L at_ = (n, C.sl, L) → Calls Try.prog 11 #[.pointer (some ⟨c, 0, none⟩), .int .i64 at_] w (fun e w' => e = .returned (.int .i64 (n : Int)) ∧ Below w.heap.size w w') →
      Calls Try.prog 11 #[.pointer (some ⟨c, 0, none⟩), .int .i64 at_] w fun e w' => FreeS own c b C N L at_ w e w' := by
    intro n hf hc
    refine hc.mono ?_
    rintro e w' ⟨he, hb⟩
    unfold FreeS
    rw [hf]
    exact ⟨he, H.below hb, .of_below own hb⟩
  cases hh : holdS C.order 0 C.sl at_ with
  | none => exact refused 4 (by unfold freeC; rw [hh]) (freeS_none w own c b C N L H at_ ha1 ha2 hh)
  | some jd =>
    obtain ⟨j, d⟩ := jd
    obtain ⟨x, hx, hd, _, _, _, hul, _⟩ := hit_data H hh
    have hf := freeC_hit (L := L) hh hx
    by_cases hmod : d % C.size = 0
    · by_cases hlen : x.us.length ≤ d / C.size
      · exact refused 4 (by rw [hf, if_pos (.inr hlen)]) (freeS_bad2 w own c b C N L H at_ ha1 ha2 j d hh hmod (fun x' hx' => by rw [hx] at hx'; injection hx' with hx'; rw [← hx']; exact hlen))
      · rw [if_neg (by omega)] at hf
        obtain ⟨v, hv⟩ : ∃ v, x.us[d / C.size]? = some v := ⟨_, List.getElem?_eq_getElem (by omega)⟩
        cases v with
        | false => exact refused 9 (by rw [hf, if_pos (by rw [hv]; simp)]) (freeS_down w own c b C N L H at_ ha1 ha2 j d hh hmod ⟨x, hx, hv⟩)
        | true =>
          by_cases hm : x.many = 1
          · have hone : ∀ y, C.sl[j]? = some y → y.many = 1 := fun y hy => by rw [hx] at hy; injection hy with hy; rw [← hy]; exact hm
            by_cases hk : emptyS C.sl + 1 ≤ C.keep
            · exact freeS_one w own c b C N L H at_ ha1 ha2 j d hh hmod ⟨x, hx, hv⟩ hone hk
            · exact freeS_gone w own c b C N L H at_ ha1 ha2 j d hh hmod ⟨x, hx, hv⟩ hone (by have := H.ok.emp; omega)
          · exact freeS_many w own c b C N L H at_ ha1 ha2 j d hh hmod ⟨x, hx, hv⟩ (fun y hy => by rw [hx] at hy; injection hy with hy; rw [← hy]; exact hm)
    · exact refused 4 (by rw [hf, if_pos (.inl hmod)]) (freeS_bad1 w own c b C N L H at_ ha1 ha2 j d hh hmod)
end Sl
end Go.Proofs.Ytlknhbcambdccaa
namespace Go.Proofs.Ytlknhbcambdccaa
open Go.RowKit
namespace Sl
open Bu

def full0 (x : Slb) : Bool := !(x.many == 0)
/-- The slabs when those from k on are trimmed. -/
def slK (l : List Slb) (k : Nat) : List Slb := l.take k ++ (l.drop k).filter full0
/-- The blocks then. -/
def delK (o : Nat) (L : List Blk) (l : List Slb) : List Blk := ((l.filter fun x => x.many == 0)).foldr (fun x M => delB M (x.pg, o)) L
def trimC (C : Ca) : Ca := { C with sl := C.sl.filter full0 }
def trimL (C : Ca) (L : List Blk) : List Blk := delK C.order L C.sl

theorem slK_len (l : List Slb) : slK l l.length = l := by unfold slK; rw [List.take_length, List.drop_length]; simp
theorem slK_zero (l : List Slb) : slK l 0 = l.filter full0 := by unfold slK; simp
theorem slK_at {l : List Slb} {k : Nat} (hk : k < l.length) : (slK l (k + 1))[k]? = l[k]? := by
  unfold slK
  rw [List.getElem?_append_left (by simp; omega), List.getElem?_take_of_lt (by omega)]
theorem slK_keep {l : List Slb} {k : Nat} {x : Slb} (hx : l[k]? = some x) (h : x.many ≠ 0) : slK l k = slK l (k + 1) := by
  obtain ⟨hk, he⟩ := List.getElem?_eq_some_iff.1 hx
  unfold slK
  rw [List.drop_eq_getElem_cons hk, he, List.filter_cons, if_pos (by unfold full0; simp [h]), List.take_succ_eq_append_getElem hk, he, List.append_assoc]
  rfl
theorem slK_gone {l : List Slb} {k : Nat} {x : Slb} (hx : l[k]? = some x) (h : x.many = 0) : slK l k = (slK l (k + 1)).eraseIdx k := by
  obtain ⟨hk, he⟩ := List.getElem?_eq_some_iff.1 hx
  unfold slK
  rw [List.drop_eq_getElem_cons hk, he, List.filter_cons, if_neg (by unfold full0; simp [h]), List.take_succ_eq_append_getElem hk, List.append_assoc]
  rw [List.eraseIdx_append_of_length_le (by simp; omega)]
  simp [Nat.min_eq_left (Nat.le_of_lt hk)]
theorem delK_keep {o : Nat} {L : List Blk} {l : List Slb} {k : Nat} {x : Slb} (hx : l[k]? = some x) (h : x.many ≠ 0) : delK o L (l.drop k) = delK o L (l.drop (k + 1)) := by
  obtain ⟨hk, he⟩ := List.getElem?_eq_some_iff.1 hx
  unfold delK
  rw [List.drop_eq_getElem_cons hk, he, List.filter_cons, if_neg (by simp [h])]
theorem delK_gone {o : Nat} {L : List Blk} {l : List Slb} {k : Nat} {x : Slb} (hx : l[k]? = some x) (h : x.many = 0) : delK o L (l.drop k) = delB (delK o L (l.drop (k + 1))) (x.pg, o) := by
  obtain ⟨hk, he⟩ := List.getElem?_eq_some_iff.1 hx
  unfold delK
  rw [List.drop_eq_getElem_cons hk, he, List.filter_cons, if_pos (by simp [h])]
  rfl
theorem mem_slK {l : List Slb} {k : Nat} {x : Slb} (h : x ∈ slK l k) : x ∈ l := by
  unfold slK at h
  rcases List.mem_append.1 h with h | h
  · exact List.mem_of_mem_take h
  · exact List.mem_of_mem_drop (List.mem_filter.1 h).1
theorem empty_slK (l : List Slb) (k : Nat) : emptyS (slK l k) ≤ emptyS l := by
  unfold emptyS slK
  rw [List.filter_append, List.length_append]
  have h1 : ((l.drop k).filter full0).filter (fun x => x.many == 0) = [] := by
    rw [List.filter_filter, List.filter_eq_nil_iff]
    intro a _
    unfold full0
    cases a.many == 0 <;> simp
  rw [h1]
  have h2 : List.Sublist ((l.take k).filter (fun x => x.many == 0)) (l.filter (fun x => x.many == 0)) := (List.take_sublist k l).filter _
  have := h2.length_le
  simpa using this
theorem pairs_slK {l : List Slb} (h : l.Pairwise fun a b => a.pg < b.pg) (k : Nat) : (slK l k).Pairwise fun a b => a.pg < b.pg := by
  have hs : List.Sublist (slK l k) l := by
    unfold slK
    have : List.Sublist (l.take k ++ (l.drop k).filter full0) (l.take k ++ l.drop k) := (List.Sublist.refl _).append (List.filter_sublist)
    rwa [List.take_append_drop] at this
  exact h.sublist hs
/-- A cache while it is trimmed. -/
theorem okK {C : Ca} {N : Nat} {L : List Blk} (H : CaOk C N L) : ∀ (n k : Nat), k + n = C.sl.length → CaOk { C with sl := slK C.sl k } N (delK C.order L (C.sl.drop k)) := by
  intro n
  induction n with
  | zero =>
    intro k hk
    obtain rfl : k = C.sl.length := by omega
    rw [slK_len, List.drop_length]
    exact H
  | succ n ih =>
    intro k hk
    have := ih (k + 1) (by omega)
    obtain ⟨x, hx⟩ : ∃ x, C.sl[k]? = some x := ⟨_, List.getElem?_eq_getElem (by omega)⟩
    by_cases hz : x.many = 0
    · rw [slK_gone hx hz, delK_gone hx hz]
      exact ok_del (C := { C with sl := slK C.sl (k + 1) }) (k := k) (x := x) (l := slK C.sl (k + 1)) this.sz this.od this.kp this.fit this.st this.asc this.giv this.len (by rw [slK_at (by omega)]; exact hx) hz (by have h2 : emptyS (slK C.sl (k + 1)) ≤ C.keep := this.emp; show emptyS (slK C.sl (k + 1)) ≤ C.keep + 1; omega)
    · rw [slK_keep hx hz, delK_keep hx hz]
      exact this
theorem trim_ok0 {C : Ca} {N : Nat} {L : List Blk} (H : CaOk C N L) : CaOk (trimC C) N (trimL C L) := by
  have := okK H C.sl.length 0 (by omega)
  rw [slK_zero, List.drop_zero] at this
  exact this
end Sl
end Go.Proofs.Ytlknhbcambdccaa
namespace Go.Proofs.Ytlknhbcambdccaa
open Go.RowKit
namespace Sl
open Bu

/-- What holds while a cache is trimmed. -/
def TrimI (own : Own?) (c b : Nat) (C : Ca) (N : Nat) (L : List Blk) (w : World) (k : Nat) (W : World) : Prop :=
  Held W own c b { C with sl := slK C.sl k } N (delK C.order L (C.sl.drop k)) ∧ Keeps own own w W

theorem TrimI.keep {own : Own?} {c b : Nat} {C : Ca} {N : Nat} {L : List Blk} {w W : World} {k : Nat} {x : Slb} (h : TrimI own c b C N L w (k + 1) W) (hx : C.sl[k]? = some x) (hz : x.many ≠ 0) : TrimI own c b C N L w k W := by
  unfold TrimI
  rw [slK_keep hx hz, delK_keep hx hz]
  exact h

set_option maxRecDepth 100000 in
set_option maxHeartbeats 4000000 in
theorem trimS_ok (w : World) (own : Own?) (c b : Nat) (C : Ca) (N : Nat) (L : List Blk) (H : Held w own c b C N L) :
    Calls Try.prog 20 #[.pointer (some ⟨c, 0, none⟩)] w fun e w' => e = .returned (.tuple #[.int .i64 (emptyS C.sl : Int), .int .i64 0]) ∧ Held w' own c b (trimC C) N (trimL C L) ∧ Keeps own own w w' := by
  have h0 : TrimI own c b C N L w C.sl.length w := by
    unfold TrimI
    rw [slK_len, List.drop_length]
    exact ⟨H, Keeps.refl _ _⟩
  obtain ⟨A, cap, R, hC⟩ := H.at_
  obtain ⟨n, hn⟩ : ∃ n, n = C.sl.length := ⟨_, rfl⟩
  have hRn : R.length = n := hC.len.trans hn.symm
  obtain ⟨c0, c1, c2, c3, c4, c5, _, _⟩ := six_cells hC.cell
  have hcap : n ≤ 9223372036854775807 := by
    rcases hC.row.2 with ⟨hv, h0⟩ | ⟨g, cp, cur, hv, _, _, g1, g2, _⟩
    · omega
    · unfold maxLen at g2; omega
  rw [hRn] at c4
  rw [← hn] at h0
  obtain ⟨e, hee⟩ : ∃ e, e = emptyS C.sl := ⟨_, rfl⟩
  rw [← hee] at c5
  have hok := fun k (hk : k ≤ C.sl.length) => okK H.ok (C.sl.length - k) k (by omega)
  have he64 : emptyS C.sl ≤ 64 := Nat.le_trans H.ok.emp H.ok.kp
  have HD := Lib.hid (dead_ok w c (some ⟨b, 0, none⟩) c0)
  have hdec : IntKind.i64.wrap ((n : Int) - 1) = (n : Int) - 1 := IntWalk.i64_in _ (by omega)
  have HX := Lib.hid (And.intro H (And.intro hn (And.intro hee (And.intro h0 (And.intro hok he64)))))
  clear H hn hee h0 hC hRn hok he64 c0 c1 c2 c3
  go_enter Try.func20, Try.ntmps20
  go_wp2_with (go_at_call 34; refine HD.out.mono ?_; rintro e w' ⟨rfl, rfl⟩)
  clear c4 c5
  go_loopw [5] (fun v wr => ∃ (k : Nat) (z : Int), k ≤ n ∧ z + 1 = (k : Int) ∧ v = .int .i64 z ∧ TrimI own c b C N L w k wr) (fun v _ => (intOf v + 1).toNat)
  case atStart => exact ⟨n, (n : Int) - 1, Nat.le_refl _, by omega, rfl, HX.out.2.2.2.1⟩
  case round =>
    obtain ⟨k, z, hk, hz, rfl, hI⟩ := hrel
    by_cases h1 : 1 ≤ k
    · obtain ⟨i, rfl⟩ : ∃ i : Nat, k = i + 1 := ⟨k - 1, by omega⟩
      obtain rfl : z = (i : Int) := by omega
      obtain ⟨x, hx⟩ : ∃ x, C.sl[i]? = some x := ⟨_, List.getElem?_eq_getElem (by have := HX.out.2.1; omega)⟩
      have hx2 : (slK C.sl (i + 1))[i]? = some x := by rw [slK_at (by have := HX.out.2.1; omega)]; exact hx
      obtain ⟨hH, hKp⟩ := hI
      obtain ⟨A2, cap2, R2, hC2⟩ := hH.at_
      have hil : i < R2.length := by rw [hC2.len]; exact (List.getElem?_eq_some_iff.1 hx2).1
      obtain ⟨p, hp⟩ : ∃ p, R2[i]? = some p := ⟨_, List.getElem?_eq_getElem hil⟩
      obtain ⟨u, uc, hs⟩ := hC2.slab i p x hp hx2
      obtain ⟨g, rfl⟩ : ∃ g, A2 = some ⟨g, 0, none⟩ := by
        rcases hC2.row.2 with ⟨_, h0⟩ | ⟨g, cp, cur, hv, _⟩
        · omega
        · injection hv with hv; exact ⟨g, hv⟩
      obtain ⟨_, _, _, _, d4, _, _, _⟩ := six_cells hC2.cell
      obtain ⟨_, _, p2, _⟩ := three_cells hs.cell
      have r0 := row_cell hC2.row (i := i) (v := .pointer (some ⟨p, 0, none⟩)) (by unfold ptrs; rw [List.getElem?_map, hp]; rfl)
      have e0 : (0 : Int) ≤ (i : Int) := by omega
      obtain ⟨l2, hl2⟩ : ∃ l2, l2 = R2.length := ⟨_, rfl⟩
      have e1 : (i : Int) < (l2 : Int) := by omega
      rw [← hl2] at d4
      have hkk : IntKind.i64.wrap ((i : Int) - 1) = (i : Int) - 1 := IntWalk.i64_in _ (by omega)
      obtain ⟨m, hm⟩ : ∃ m, m = x.many := ⟨_, rfl⟩
      rw [← hm] at p2
      by_cases hm0 : m = 0
      · subst hm0
        have hgv : (x.pg, C.order) ∈ delK C.order L (C.sl.drop (i + 1)) := (HX.out.2.2.2.2.1 (i + 1) (by have := HX.out.2.1; omega)).giv x (List.mem_of_getElem? hx2)
        obtain ⟨e', he'⟩ : ∃ e' : Nat, e' + 1 = emptyS (slK C.sl (i + 1)) := by
          have := empty_erase hx2
          rw [if_pos hm.symm] at this
          exact ⟨_, this⟩
        have he3 : e' ≤ 1024 := by
          have := empty_slK C.sl (i + 1)
          have := HX.out.2.2.2.2.2
          omega
        have hC3 : CacheAt wr own c b { C with sl := slK C.sl (i + 1) } (e' + 1) (some ⟨g, 0, none⟩) cap2 R2 := by rw [he']; exact hC2
        have hgive := give_ok wr own c b i { C with sl := slK C.sl (i + 1) } e' (some ⟨g, 0, none⟩) cap2 R2 N (delK C.order L (C.sl.drop (i + 1))) x hC3 hH.bu hx2 hgv he3
        have HG := Lib.hid hgive
        have HS := Lib.hid (And.intro hH (And.intro hKp (And.intro hx (And.intro hx2 (And.intro hm he')))))
        clear hgive hH hKp hx hx2 hm he' hC2 hC3 hs hp hil hl2 hgv
        go_wp2_with (go_at_call 37; refine HG.out.mono ?_; rintro e w' ⟨rfl, hC', hB', hK'⟩; have H5 := Lib.hid (And.intro hC' (And.intro hB' hK')); clear hC' hB' hK')
        go_roundw
        case rel =>
          refine ⟨i, (i : Int) - 1, by omega, by omega, rfl, ?_⟩
          obtain ⟨hC', hB', hK'⟩ := H5.out
          obtain ⟨hH, hKp, hx, hx2, hm, he'⟩ := HS.out
          unfold TrimI
          rw [slK_gone hx hm.symm, delK_gone hx hm.symm]
          have hem : emptyS ((slK C.sl (i + 1)).eraseIdx i) = e' := by
            have := empty_erase hx2
            rw [if_pos hm.symm] at this
            omega
          have hok := HX.out.2.2.2.2.1 i (by have := HX.out.2.1; omega)
          rw [slK_gone hx hm.symm, delK_gone hx hm.symm] at hok
          refine ⟨⟨⟨some ⟨g, 0, none⟩, cap2, R2.eraseIdx i, ?_⟩, hB', hok, hH.fresh.keeps hK'⟩, hKp.trans hK'⟩
          show CacheAt _ own c b _ (emptyS ((slK C.sl (i + 1)).eraseIdx i)) _ _ _
          rw [hem]
          exact hC'
        case measure => simp [intOf]
      · have t1 : ((m : Int) == 0) = false := by rw [beq_eq_false_iff_ne]; omega
        have HS := Lib.hid (TrimI.keep (And.intro hH hKp) hx (by rw [← hm]; exact hm0))
        clear hH hKp hx hx2 hm hC2 hs hp hil hl2 hm0
        go_wp2
        go_roundw
        case rel => exact ⟨i, (i : Int) - 1, by omega, by omega, rfl, HS.out⟩
        case measure => simp [intOf]
    · obtain rfl : k = 0 := by omega
      obtain rfl : z = -1 := by omega
      have HI := Lib.hid hI
      clear hI
      go_wp2
      go_ret2
      obtain ⟨h1, h2⟩ := HI.out
      rw [slK_zero, List.drop_zero] at h1
      rw [← HX.out.2.2.1]
      exact ⟨rfl, h1, h2⟩
end Sl
end Go.Proofs.Ytlknhbcambdccaa
namespace Go.Proofs.Ytlknhbcambdccaa
open Go.RowKit
namespace Sl
open Bu

theorem owner_nums (d s q : Nat) (hd : d ≤ 65536) (hs : 8 ≤ s) (hq : q = d / s) : wrap64 ((d : Int).tdiv (s : Int)) = (q : Int) ∧ (d : Int) / (s : Int) = (q : Int) ∧ wrap64 (q : Int) = (q : Int) := by
  have h1 := quo_w64 d s hd hs
  rw [← hq] at h1
  have h2 : (d : Int) / (s : Int) = ((d / s : Nat) : Int) := rfl
  rw [← hq] at h2
  have h4 : q ≤ d := by rw [hq]; exact Nat.div_le_self _ _
  refine ⟨h1, h2, ?_⟩
  clear h1 h2 hq
  rw [← w64]; exact IntWalk.i64_in _ (by omega)

set_option maxRecDepth 100000 in
set_option maxHeartbeats 4000000 in
theorem ownerS_out (w : World) (own : Own?) (c b : Nat) (C : Ca) (N : Nat) (L : List Blk) (H : Held w own c b C N L) (at_ : Int) (ha1 : -9223372036854775808 ≤ at_) (ha2 : at_ < 9223372036854775808) (j d : Nat) (hhit : holdS C.order 0 C.sl at_ = some (j, d)) (x : Slb) (hx : C.sl[j]? = some x) (hv : x.us[d / C.size]? = none) :
    Calls Try.prog 13 #[.pointer (some ⟨c, 0, none⟩), .int .i64 at_] w fun e w' => e = .returned (.tuple #[.int .i64 0, .bool false, .int .i64 4]) ∧ ∃ n, w' = w.drewN n := by
  obtain ⟨x', hx', hd, -, -, -, hul, hxp⟩ := hit_data H hhit
  obtain rfl : x = x' := by rw [hx] at hx'; injection hx'
  clear hx'
  obtain ⟨A, cap, R, hC⟩ := H.at_
  have hpg : ∀ x ∈ C.sl, x.pg ≤ 1024 := fun x hx => by
    have h2 : x.pg + 2 ^ C.order ≤ 1024 := (st_le H.ok.st _ (H.ok.giv x hx)).2
    have := pow_pos2 C.order
    omega
  have hh := holder_ok w own c b C _ A cap R hC hpg H.ok.od H.ok.sz.2.1 at_ ha1 ha2
  unfold HoldR at hh
  rw [hhit] at hh
  simp only at hh
  obtain ⟨p, hp⟩ : ∃ p, R[j]? = some p := ⟨_, List.getElem?_eq_getElem (by have := (List.getElem?_eq_some_iff.1 hx).1; have := hC.len; omega)⟩
  have hh2 : Calls Try.prog 35 #[.pointer (some ⟨c, 0, none⟩), .int .i64 at_] w fun e w' => e = .returned (.tuple #[.pointer (some ⟨p, 0, none⟩), .int .i64 (d : Int)]) ∧ ∃ n, w' = w.drewN n := by
    refine hh.mono ?_
    rintro e w' ⟨⟨p', hp', he⟩, hw⟩
    rw [hp] at hp'
    injection hp' with hp'
    subst hp'
    exact ⟨he, hw⟩
  obtain ⟨c0, _⟩ := six_cells hC.cell
  obtain ⟨u, uc, hs⟩ := hC.slab j p x hp hx
  have HD := Lib.hid (dead_ok w c (some ⟨b, 0, none⟩) c0)
  have HH := Lib.hid hh2
  have hsz : (C.size : Int) ≠ 0 := by have := H.ok.sz.1; omega
  have hq : ∀ w : World, (binOp .eql 97 (.pointer (some ⟨p, 0, none⟩)) (.pointer none)).run Try.prog w = .ok (.bool false) w := fun w => run_eql_ptr_nil Try.prog w 97 _ (some ⟨p, 0, none⟩) Try.underlying97
  have e0 : (0 : Int) ≤ (d : Int) := by omega
  have e1 : (0 : Int) ≤ (C.size : Int) := by omega
  have hsz8 := H.ok.sz.1
  have hsz1 := H.ok.sz.2.1
  obtain ⟨hcap1, hcap2, _⟩ := row_caps hs.row
  have hcap3 : uc ≤ 9223372036854775807 := by unfold maxLen at hcap2; exact hcap2
  obtain ⟨q, hqe⟩ : ∃ q, q = d / C.size := ⟨_, rfl⟩
  have hn4 := owner_nums d C.size q hd hsz8 hqe
  have HG := Lib.hid hn4
  clear hn4
  rw [← hqe] at hv
  have hpos := Lib.hid hqe
  clear hqe
  have hCc := Lib.hid hC.cell
  have hsc := Lib.hid hs.cell
  have hsr := Lib.hid hs.row
  have hlen : x.us.length ≤ q := List.getElem?_eq_none_iff.1 hv
  have HL := Lib.hid hlen
  clear hv hlen hh hh2 hpg hC H c0 hs hp hx hhit hcap2 hcap1
  go_enter Try.func13, Try.ntmps13
  go_wp2_with (go_at_call 34; refine HD.out.mono ?_; rintro e w' ⟨rfl, rfl⟩)
  refine HH.out.mono ?_
  rintro _ W2 ⟨rfl, dd, hW2⟩
  have hh3 : ∀ k : Nat, W2.heap[k]? = w.heap[k]? := fun k => by rw [hW2]; rfl
  obtain ⟨d0, d1, d2, _⟩ := three_cells ((hh3 p).trans hsc.out)
  obtain ⟨_, f1, _, _, _, _, _, _⟩ := six_cells ((hh3 c).trans hCc.out)
  obtain ⟨g1, g3, g5⟩ := HG.out
  have hqd : decide (x.us.length ≤ q) = true := decide_eq_true HL.out
  have hqe : x.us.length ≤ q := HL.out
  have H2 := Lib.hid hW2
  clear hW2 hh3
  go_upto_region 5 with (fail)
  clear g1 g3
  go_wp2
  exact bodyPost_ret (v := .tuple #[.int .i64 0, .bool false, .int .i64 4]) (by simp [results, Try.results13, go_sem]) rfl ⟨rfl, _, H2.out⟩

set_option maxRecDepth 100000 in
set_option maxHeartbeats 4000000 in
theorem ownerS_in (w : World) (own : Own?) (c b : Nat) (C : Ca) (N : Nat) (L : List Blk) (H : Held w own c b C N L) (at_ : Int) (ha1 : -9223372036854775808 ≤ at_) (ha2 : at_ < 9223372036854775808) (j d : Nat) (hhit : holdS C.order 0 C.sl at_ = some (j, d)) (x : Slb) (hx : C.sl[j]? = some x) (v : Bool) (hv : x.us[d / C.size]? = some v) :
    Calls Try.prog 13 #[.pointer (some ⟨c, 0, none⟩), .int .i64 at_] w fun e w' => e = .returned (.tuple #[.int .i64 (addrS C.size x (d / C.size) : Nat), .bool v, .int .i64 0]) ∧ ∃ n, w' = w.drewN n := by
  obtain ⟨x', hx', hd, -, -, -, hul, hxp⟩ := hit_data H hhit
  obtain rfl : x = x' := by rw [hx] at hx'; injection hx'
  clear hx'
  obtain ⟨A, cap, R, hC⟩ := H.at_
  have hpg : ∀ x ∈ C.sl, x.pg ≤ 1024 := fun x hx => by
    have h2 : x.pg + 2 ^ C.order ≤ 1024 := (st_le H.ok.st _ (H.ok.giv x hx)).2
    have := pow_pos2 C.order
    omega
  have hh := holder_ok w own c b C _ A cap R hC hpg H.ok.od H.ok.sz.2.1 at_ ha1 ha2
  unfold HoldR at hh
  rw [hhit] at hh
  simp only at hh
  obtain ⟨p, hp⟩ : ∃ p, R[j]? = some p := ⟨_, List.getElem?_eq_getElem (by have := (List.getElem?_eq_some_iff.1 hx).1; have := hC.len; omega)⟩
  have hh2 : Calls Try.prog 35 #[.pointer (some ⟨c, 0, none⟩), .int .i64 at_] w fun e w' => e = .returned (.tuple #[.pointer (some ⟨p, 0, none⟩), .int .i64 (d : Int)]) ∧ ∃ n, w' = w.drewN n := by
    refine hh.mono ?_
    rintro e w' ⟨⟨p', hp', he⟩, hw⟩
    rw [hp] at hp'
    injection hp' with hp'
    subst hp'
    exact ⟨he, hw⟩
  obtain ⟨c0, _⟩ := six_cells hC.cell
  obtain ⟨u, uc, hs⟩ := hC.slab j p x hp hx
  have HD := Lib.hid (dead_ok w c (some ⟨b, 0, none⟩) c0)
  have HH := Lib.hid hh2
  have hsz : (C.size : Int) ≠ 0 := by have := H.ok.sz.1; omega
  have hq : ∀ w : World, (binOp .eql 97 (.pointer (some ⟨p, 0, none⟩)) (.pointer none)).run Try.prog w = .ok (.bool false) w := fun w => run_eql_ptr_nil Try.prog w 97 _ (some ⟨p, 0, none⟩) Try.underlying97
  have e0 : (0 : Int) ≤ (d : Int) := by omega
  have e1 : (0 : Int) ≤ (C.size : Int) := by omega
  have hsz8 := H.ok.sz.1
  have hsz1 := H.ok.sz.2.1
  obtain ⟨hcap1, hcap2, _⟩ := row_caps hs.row
  have hcap3 : uc ≤ 9223372036854775807 := by unfold maxLen at hcap2; exact hcap2
  obtain ⟨q, hqe⟩ : ∃ q, q = d / C.size := ⟨_, rfl⟩
  have hn4 := owner_nums d C.size q hd hsz8 hqe
  have HG := Lib.hid hn4
  clear hn4
  rw [← hqe] at hv ⊢
  have hpos := Lib.hid hqe
  clear hqe
  have hCc := Lib.hid hC.cell
  have hsc := Lib.hid hs.cell
  have hsr := Lib.hid hs.row
  have hql : q < x.us.length := (List.getElem?_eq_some_iff.1 hv).1
  have e2 : (0 : Int) ≤ (q : Int) := by omega
  have e3 : (q : Int) < (x.us.length : Int) := by omega
  have hq128 : q ≤ 1024 := by omega
  have HL := Lib.hid hv
  obtain ⟨ad, had⟩ : ∃ ad : Nat, ad = 64 * x.pg + q * C.size := ⟨_, rfl⟩
  have hadr : ∀ W : World, W.cell? ⟨c, 1, none⟩ = some (.int .i64 (C.size : Int)) → W.cell? ⟨p, 0, none⟩ = some (.int .i64 (x.pg : Int)) → Calls Try.prog 43 #[.pointer (some ⟨c, 0, none⟩), .pointer (some ⟨p, 0, none⟩), .int .i64 (q : Int)] W fun e w' => e = .returned (.int .i64 (ad : Int)) ∧ ∃ n, w' = W.drewN n := fun W h1 h2 => by
    have := address_ok W c p C.size x.pg q h1 h2 hsz1 hxp hq128
    rw [← had] at this
    exact this
  have HAd := Lib.hid hadr
  have hadv : (addrS C.size x q : Nat) = ad := had.symm
  rw [hadv]
  clear hv hh hh2 hpg hC H c0 hs hp hx hhit hcap2 hcap1 had hadv hadr
  go_enter Try.func13, Try.ntmps13
  go_wp2_with (go_at_call 34; refine HD.out.mono ?_; rintro e w' ⟨rfl, rfl⟩)
  refine HH.out.mono ?_
  rintro _ W2 ⟨rfl, dd, hW2⟩
  have hh3 : ∀ k : Nat, W2.heap[k]? = w.heap[k]? := fun k => by rw [hW2]; rfl
  obtain ⟨d0, d1, d2, _⟩ := three_cells ((hh3 p).trans hsc.out)
  obtain ⟨_, f1, _, _, _, _, _, _⟩ := six_cells ((hh3 c).trans hCc.out)
  obtain ⟨g1, g3, g5⟩ := HG.out
  have hqd : decide (x.us.length ≤ q) = false := by rw [decide_eq_false_iff_not]; exact Nat.not_le.2 hql
  have hqe : ¬ x.us.length ≤ q := Nat.not_le.2 hql
  have hrU : W2.ownsRow 0 4 1 (.slice (some ⟨u, 0, none⟩) x.us.length uc) x.us.length (bcells x.us) := row_same hsr.out fun g _ => hh3 g
  have u1 := row_cell hrU (i := q) (v := .bool v) (by rw [bcells_get, HL.out]; rfl)
  have HA2 := Lib.hid (fun n => HAd.out (W2.drewN n) f1 d0)
  have H2 := Lib.hid hW2
  clear hW2 hh3 hrU
  go_upto_region 5 with (fail)
  clear g1 g3
  go_wp2_with (fail)
  trace "Q"
  go_quiet ((go_at_call 43; exact Calls.quiet_of (HA2.out _)))
  go_wp2
  exact bodyPost_ret (v := .tuple #[.int .i64 (ad : Int), .bool v, .int .i64 0]) (by simp [results, Try.results13, go_sem]) rfl ⟨rfl, _, by rw [H2.out]; exact World.drewN_drewN ..⟩

theorem ownerS_ok (w : World) (own : Own?) (c b : Nat) (C : Ca) (N : Nat) (L : List Blk) (H : Held w own c b C N L) (at_ : Int) (ha1 : -9223372036854775808 ≤ at_) (ha2 : at_ < 9223372036854775808) :
    Calls Try.prog 13 #[.pointer (some ⟨c, 0, none⟩), .int .i64 at_] w fun e w' => e = .returned (match ownerC C at_ with | none => .tuple #[.int .i64 0, .bool false, .int .i64 4] | some (a, v) => .tuple #[.int .i64 (a : Int), .bool v, .int .i64 0]) ∧ ∃ n, w' = w.drewN n := by
  unfold ownerC
  cases hh : holdS C.order 0 C.sl at_ with
  | none => exact ownerS_none w own c b C N L H at_ ha1 ha2 hh
  | some jd =>
    obtain ⟨j, d⟩ := jd
    obtain ⟨x, hx, _⟩ := hit_data H hh
    simp only [hx]
    cases hv : x.us[d / C.size]? with
    | none => exact ownerS_out w own c b C N L H at_ ha1 ha2 j d hh x hx hv
    | some v => exact ownerS_in w own c b C N L H at_ ha1 ha2 j d hh x hx v hv
end Sl
end Go.Proofs.Ytlknhbcambdccaa
