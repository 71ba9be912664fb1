/- strings.Builder at this program: what is written goes behind what is there. Reports: whether all names are names; numbers as digits. The program: comparing, index. The program: ask. -/
import Derived.Test.YtionocafkaemiaaDoorK5
import Derived.Test.YtionocafkaemiaaDoorK6
import Derived.Shelf.Strings.BuilderK
import Derived.Shelf.Strconv.Itoa4
import Derived.Lib.SmallJoins
namespace Go.Proofs.YtionocafkaemiaaDoor
open Go.Shelf Go.RowKit Go.Lib
namespace Sx
abbrev TB : TypeId := 101
abbrev TU : TypeId := 5
/-- A builder that has been used. -/
abbrev BAt (B b : Nat) (bs : List Value) (w : World) : Prop := Lib.BuilderAtF TB TU B b (.pointer (some ⟨b, 0, none⟩)) bs w
theorem bld_size : (Tryd.prog.info? TB).map (·.size) = some 2 := by kernel_rfl
theorem bld_lies : liesAt Tryd.prog Tryd.prog.depth TB (2 / Tryd.prog.cellsOf TB) 0 TB 1 = true := by kernel_rfl
theorem byte_row : (Tryd.prog.info? TU).map (fun i => (i.zero, i.size, i.bytes)) = some (some (.int .u8 0), 1, 1) := by kernel_rfl
theorem bst_extra : Builder.Extra Tryd.prog Tryd.bst_ren where
  sizeBuilder := by kernel_rfl
  liesBuilder := by kernel_rfl
  t5 := Tryd.underlying5
  a5 := Tryd.isAgg5
  z5 := Tryd.sizeOf5
  v5 := Tryd.zeroValue5
  infoByte := by kernel_rfl
  cellsByte := by kernel_rfl
  sizeByte := by kernel_rfl
  neB5 := by decide
set_option maxHeartbeats 1000000 in
set_option maxRecDepth 100000 in
theorem bcc_used (b : Nat) (w : World) (h0 : w.cell? ⟨b, 0, none⟩ = some (.pointer (some ⟨b, 0, none⟩))) :
    Calls Tryd.prog 88 #[.pointer (some ⟨b, 0, none⟩)] w fun e w' => e = .returned (.tuple #[]) ∧ w' = w := by
  obtain ⟨j, hj, _⟩ := Option.map_eq_some_iff.1 bld_size
  go_enter Tryd.func88, Tryd.ntmps88
  go_wp2
  rw [Lib.run_neq_ptr_same w _ Tryd.underlying99 hj]
  go_wp2
  go_end0
  exact ⟨rfl, rfl⟩
set_option maxHeartbeats 1000000 in
set_option maxRecDepth 100000 in
theorem bcc_fresh (b : Nat) (w : World) (h0 : w.cell? ⟨b, 0, none⟩ = some (.pointer none)) (hsh : w.shape? b = some (TB, 2)) (hfz : w.frozen? ⟨b, 0, none⟩ = false) :
    Calls Tryd.prog 88 #[.pointer (some ⟨b, 0, none⟩)] w fun e w' => e = .returned (.tuple #[]) ∧ w' = w.setCell ⟨b, 0, none⟩ (.pointer (some ⟨b, 0, none⟩)) := by
  obtain ⟨j, hj, hjs⟩ := Option.map_eq_some_iff.1 bld_size
  go_enter Tryd.func88, Tryd.ntmps88
  go_wp2
  rw [Lib.run_to_unsafe w ⟨b, 0, none⟩ Tryd.underlying99 Tryd.underlying139 hj (by rw [hjs]; decide) hsh (Nat.zero_lt_succ 1)]
  simp only [Result.andThen]
  rw [Oper.upon_value]
  go_wp2
  rw [run_callFunc_extern Tryd.func103 (by kernel_rfl) (by kernel_rfl) (by kernel_rfl) (e := Extern.AbiNoEscape.same) (by kernel_rfl)]
  rw [Lib.run_noEscape]
  simp only [Result.andThen]
  rw [Oper.upon_value]
  go_wp2
  rw [Lib.run_from_unsafe w ⟨b, 0, none⟩ Tryd.underlying139 Tryd.underlying99 hj hsh bld_lies]
  simp only [Result.andThen]
  rw [Oper.upon_value]
  go_wp2
  go_end0
  exact ⟨rfl, rfl⟩
theorem bcc_ok (B b : Nat) (bs : List Value) (w : World) (h : Lib.IsBuilderF TB TU B b bs w) :
    Calls Tryd.prog 88 #[.pointer (some ⟨b, 0, none⟩)] w fun e w' => e = .returned (.tuple #[]) ∧ (BAt B b bs w' ∧ Below B w w' ∧ Lib.OthersKept TU (some b) w w') := by
  rcases h with h | h
  · refine (bcc_fresh b w h.cell0 h.shape h.frozen0).mono ?_
    rintro e w' ⟨rfl, rfl⟩
    exact ⟨rfl, h.used _, (Below.refl B w).setCell (p := ⟨b, 0, none⟩) h.1 _, (Lib.OthersKept.refl _ _ w).setCell ⟨b, 0, none⟩ rfl _⟩
  · refine (bcc_used b w h.cell0).mono ?_
    rintro e w' ⟨rfl, rfl⟩
    exact ⟨rfl, h, Below.refl B _, Lib.OthersKept.refl _ _ _⟩
theorem lt_block {w : World} {b : Nat} {o : Obj} (h : w.heap[b]? = some o) : b < w.heap.size := (Array.getElem?_eq_some_iff.1 h).1
set_option maxHeartbeats 2000000 in
set_option maxRecDepth 100000 in
theorem bws_ok (B b : Nat) (bs : List Value) (s : ByteArray) (w : World) (h : Lib.IsBuilderF TB TU B b bs w) (hlen : bs.length + s.size ≤ 140737488355328) (hBw : B ≤ w.heap.size) :
    Calls Tryd.prog 68 #[.pointer (some ⟨b, 0, none⟩), .string s] w fun e w' => e = .returned (.tuple #[.int .i64 s.size, .nilIface]) ∧ (BAt B b (bs ++ Lib.strCells s) w' ∧ Below B w w' ∧ Lib.OthersKept TU (some b) w w') := by
  obtain ⟨i0, hi, hz0, hz1, hz2⟩ := info_parts byte_row
  go_enter Tryd.func68, Tryd.ntmps68
  go_wp2_with (go_at_call 88; refine (bcc_ok B b bs _ h).mono ?_)
  rintro e w1 ⟨rfl, h1, hb1, hk1⟩
  obtain ⟨hB, v, hbk, hown, hne⟩ := h1
  have c1 : w1.cell? ⟨b, 1, none⟩ = some v := by rw [Lib.cell_of_heap hbk]; rfl
  go_wp2_with (at_builtin; refine Lib.wpList_append_own_stringF _ rfl _ _ 44 9 rfl B TU i0 Tryd.underlying44 Tryd.underlying9 hi hz0 hz1 hz2 _ _ _ rfl hown s rfl ?c3 ?c4 ?c5 ?_)
  case c3 => unfold maxLen; omega
  case c4 => omega
  case c5 => have := hb1.size; omega
  intro v' w2 hown' hgrow _
  have hlt := lt_block hbk
  have hb2 : w2.heap[b]? = some (.cells #[.pointer (some ⟨b, 0, none⟩), v] TB (0, 0)) := by
    rw [hgrow.block b hlt (fun e => hne e.symm)]
    exact hbk
  have d1 : w2.cell? ⟨b, 1, none⟩ = some v := by rw [Lib.cell_of_heap hb2]; rfl
  have f1 : w2.frozen? ⟨b, 1, none⟩ = false := Lib.frozen_of_heap hb2 1
  obtain ⟨ao, n', cap, rfl⟩ : ∃ ao n' cap, v' = .slice ao n' cap := by
    rcases hown'.2 with ⟨hv, _⟩ | ⟨g, cap, cur, fz, hv, _⟩
    · exact ⟨_, _, _, hv⟩
    · exact ⟨_, _, _, hv⟩
  go_wp2
  go_ret2
  refine ⟨rfl, ?_, ?_, (hk1.grown hgrow (Lib.ownsRowF_kind hown)).setCell ⟨b, 1, none⟩ rfl _⟩
  · exact Lib.BuilderAtF.put (T := TB) (e := TU) hB hb2 (bs' := bs ++ Lib.strCells s) (by simpa [Lib.strCells_length] using hown') (by decide)
  · exact (hb1.grown hgrow (by have := hb1.size; omega) (fun k hk => (hown.lt k hk).1)).setCell (p := ⟨b, 1, none⟩) hB _
set_option maxHeartbeats 2000000 in
set_option maxRecDepth 100000 in
theorem bwb_ok (B b : Nat) (bs : List Value) (c : Int) (w : World) (h : Lib.IsBuilderF TB TU B b bs w) (hlen : bs.length + 1 ≤ 140737488355328) (hBw : B ≤ w.heap.size) :
    Calls Tryd.prog 71 #[.pointer (some ⟨b, 0, none⟩), .int .u8 c] w fun e w' => e = .returned .nilIface ∧ (BAt B b (bs ++ [.int .u8 c]) w' ∧ Below B w w' ∧ Lib.OthersKept TU (some b) w w') := by
  obtain ⟨i0, hi, hz0, hz1, hz2⟩ := info_parts byte_row
  go_enter Tryd.func71, Tryd.ntmps71
  go_wp2_with (go_at_call 88; refine (bcc_ok B b bs _ h).mono ?_)
  rintro e w1 ⟨rfl, h1, hb1, hk1⟩
  obtain ⟨hB, v, hbk, hown, hne⟩ := h1
  have c1 : w1.cell? ⟨b, 1, none⟩ = some v := by rw [Lib.cell_of_heap hbk]; rfl
  go_wp2_with (at_builtin; refine wpList_append_ownF _ rfl _ _ 44 rfl B TU i0 (.int .u8 0) 1 1 Tryd.underlying44 hi hz0 hz1 hz2 rfl (by decide) _ _ _ rfl (hown.alloc _) ⟨w1.heap.size, 0, none⟩ 1 1 [.int .u8 c] rfl rfl ?c1 ?c2 ?c3 ?c4 ?c5 ?_)
  case c1 =>
    intro j u hj
    match j, hj with
    | 0, hj => simp at hj; subst hj; simp [Addr.add]
  case c2 => intro u hu; simp at hu; subst hu; rfl
  case c3 => unfold maxLen; omega
  case c4 => omega
  case c5 => have := hb1.size; simp; omega
  intro v' w2 hown' hgrow _
  have hlt := lt_block hbk
  have hb2 : w2.heap[b]? = some (.cells #[.pointer (some ⟨b, 0, none⟩), v] TB (0, 0)) := by
    rw [hgrow.block b (by simp; omega) (fun e => hne e.symm), Lib.alloc_old w1 _ b hlt]
    exact hbk
  have d1 : w2.cell? ⟨b, 1, none⟩ = some v := by rw [Lib.cell_of_heap hb2]; rfl
  have f1 : w2.frozen? ⟨b, 1, none⟩ = false := Lib.frozen_of_heap hb2 1
  obtain ⟨g, cap, rfl⟩ : ∃ g cap, v' = .slice (some ⟨g, 0, none⟩) (bs.length + 1) cap := by
    rcases hown'.2 with ⟨_, h0⟩ | ⟨g, cap, cur, fz, hv, _⟩
    · omega
    · exact ⟨g, cap, hv⟩
  go_wp2
  go_ret
  refine ⟨rfl, ?_, ?_, ((hk1.alloc _).grown hgrow (Lib.ownsRowF_kind (hown.alloc _))).setCell ⟨b, 1, none⟩ rfl _⟩
  · exact Lib.BuilderAtF.put (T := TB) (e := TU) hB hb2 (bs' := bs ++ [.int .u8 c]) (by simpa using hown') (by decide)
  · exact ((hb1.alloc (by have := hb1.size; omega) _).grown hgrow (by have := hb1.size; simp; omega) (fun k hk => (hown.lt k hk).1)).setCell (p := ⟨b, 1, none⟩) hB _
end Sx
end Go.Proofs.YtionocafkaemiaaDoor
namespace Go.Proofs.YtionocafkaemiaaDoor
open Go.Shelf Go.RowKit Go.Lib
namespace Sx
abbrev enS (s : ByteArray) : List Value := [.string s]
theorem ENS : Enc enS 1 := ⟨by omega, fun _ => rfl, fun x u h => by
  simp only [List.mem_cons, List.not_mem_nil, or_false] at h
  rw [h]; rfl⟩
abbrev enL (x : Ser) : List Value := [.slice x.A x.L.length x.c]
theorem ENL : Enc enL 1 := ⟨by omega, fun _ => rfl, fun x u h => by
  simp only [List.mem_cons, List.not_mem_nil, or_false] at h
  rw [h]; rfl⟩
theorem EAt.one {α : Type} {f : α → Value} {w : World} {A : Option Addr} {c : Nat} {L : List α} (h : EAt (fun x => [f x]) 1 w A c L) {j : Nat} {x : α} (hx : L[j]? = some x) : ∃ g o, A = some ⟨g, o, none⟩ ∧ g < w.heap.size ∧ w.cell? ⟨g, o + j, none⟩ = some (f x) := by
  obtain ⟨g, o, hA, hg, d⟩ := h.2.2 j x hx
  refine ⟨g, o, hA, hg, ?_⟩
  have := d 0 _ (by omega) rfl
  rwa [Nat.mul_one] at this
/-- A string of a size that the walk can do with. -/
abbrev SB : Type := {s : ByteArray // s.size < 1099511627776}
instance : Inhabited SB := ⟨⟨.empty, by decide⟩⟩
theorem sb_ex : ∀ {Ls : List ByteArray}, (∀ s, s ∈ Ls → s.size < 1099511627776) → ∃ zs : List SB, zs.map (·.1) = Ls
  | [], _ => ⟨[], rfl⟩
  | s :: Ls, h => by
    obtain ⟨zs, hz⟩ := sb_ex (fun x hx => h x (List.mem_cons_of_mem _ hx))
    exact ⟨⟨s, h s (List.mem_cons_self ..)⟩ :: zs, by rw [List.map_cons, hz]⟩
theorem rep1_ok (s : ByteArray) (hs : s.size < 1099511627776) (W : World) : Calls Tryd.prog 66 #[.string s] W fun e w' => e = .returned (.bool (!nameS s)) ∧ w' = W := by
  have hN := fun V => name_ok s hs V
  generalize nameS s = b at *
  go_enter Tryd.func66, Tryd.ntmps66
  go_wp2_with (go_at_call 67; refine (hN _).mono ?_; rintro e w' ⟨rfl, hw⟩; have hw := hw.symm; subst hw)
  go_ret
  exact ⟨rfl, rfl⟩
set_option maxHeartbeats 1000000 in
theorem contS_ok (A : Option Addr) (c : Nat) (Ls : List ByteArray) (W : World) (h : EAt enS 1 W A c Ls) (hs : ∀ s, s ∈ Ls → s.size < 1099511627776) :
    Calls Tryd.prog 65 #[.slice A Ls.length c, .func (.func 66) #[] #[]] W fun e w' => e = .returned (.bool (!(Ls.all nameS))) ∧ ∃ q, w' = W.drewN q := by
  by_cases h0 : Ls = []
  · subst h0
    refine (AnyE.slices_ContainsFunc_empty Tryd.contS A c _ W).mono ?_
    rintro e w' ⟨rfl, rfl⟩
    exact ⟨rfl, 0, rfl⟩
  · obtain ⟨zs, hz⟩ := sb_ex hs
    obtain ⟨g, o, rfl, hg, _⟩ := h.one (f := .string) (j := 0) (x := nm Ls 0) (nm_get (List.length_pos_iff.2 h0))
    have hlen : zs.length = Ls.length := by rw [← hz, List.length_map]
    have hmax := h.1
    have hmax2 := h.2.1
    unfold maxLen at hmax2
    have eg : ∀ args w, (callFunc 66 args).run Tryd.prog w = .ok (.enter 66 args) w := enters_of Tryd.func66 (by kernel_rfl) rfl
    have := AnyE.slices_ContainsFunc Tryd.contS (fun x : SB => Value.string x.1) (fun x => !nameS x.1) 66 #[] eg g o Ls.length c zs W (fun V x _ => (rep1_ok x.1 x.2 V).mono fun _ _ h => ⟨h.1, 0, h.2⟩) (by omega) (by omega) (fun j hj => by
      have hj2 : zs[j]? = some zs[j]! := by rw [List.getElem?_eq_getElem hj]; simp [hj]
      have hx : Ls[j]? = some zs[j]!.1 := by rw [← hz, List.getElem?_map, hj2]; rfl
      obtain ⟨g', o', e1, _, e3⟩ := h.one (f := .string) hx
      injection e1 with e1; injection e1 with e1 e2
      subst e1; subst e2
      exact e3)
    refine this.mono ?_
    rintro e w' ⟨rfl, hw⟩
    refine ⟨?_, hw⟩
    rw [← hlen, List.take_length, ← hz]
    congr 2
    rw [List.all_map, List.not_all_eq_any_not]
    rfl
theorem fmt_ok (v : Int) (h0 : 0 ≤ v) (h1 : v ≤ 1000000000000) (W : World) (hT : Lib.TabIs Tryd.prog W "internal/strconv.uint64pow10" .u64 Lib.pow10Tab) :
    Calls Tryd.prog 70 #[.int .i64 v, .int .i64 10] W fun e w' => e = .returned (.string ⟨(Lib.itoa v).toArray⟩) ∧ ∃ k os, w' = Go.Sort.grow (W.drewN k) os :=
  Any.strconv_FormatInt_10 Tryd.fmtI v (by omega) (by omega) W hT
theorem bst_ok (B b : Nat) (l : List UInt8) (w : World) (h : Lib.IsBuilderF TB TU B b (Lib.byteCells l) w) (hBw : B ≤ w.heap.size) :
    Calls Tryd.prog 72 #[.pointer (some ⟨b, 0, none⟩)] w fun e w' => e = .returned (.string ⟨l.toArray⟩) ∧ (Lib.IsBuilderF TB TU B b (Lib.byteCells l) w' ∧ Below B w w' ∧ Lib.OthersKept TU (some b) w w') :=
  Any.Builder_String_any_k Tryd.bst bst_extra B b l w h hBw
end Sx
end Go.Proofs.YtionocafkaemiaaDoor
namespace Go.Proofs.YtionocafkaemiaaDoor
open Go.RowKit Go.Lib
namespace Sx

theorem nan64_ok (x : Int) (w : World) : Calls Tryd.prog 76 #[.int .i64 x] w fun e w' => e = .returned (.bool false) ∧ w = w' := by
  go_enter Tryd.func76, Tryd.ntmps76
  go_wp2
  go_ret
  exact ⟨by simp, rfl⟩
def cmpV (a b : Int) : Int := if a < b then -1 else if b < a then 1 else 0
set_option maxHeartbeats 1000000 in
theorem cmp64_ok (a b : Int) (w : World) : Calls Tryd.prog 47 #[.int .i64 a, .int .i64 b] w fun e w' => e = .returned (.int .i64 (cmpV a b)) ∧ w = w' := by
  unfold cmpV
  by_cases h : a < b
  · rw [if_pos h]
    go_enter Tryd.func47, Tryd.ntmps47
    go_wp2_with (go_at_call 76; refine (nan64_ok _ _).mono ?_; rintro e w' ⟨rfl, rfl⟩)
    go_ret
    exact ⟨rfl, rfl⟩
  · rw [if_neg h]
    by_cases h2 : b < a
    · rw [if_pos h2]
      go_enter Tryd.func47, Tryd.ntmps47
      go_wp2_with (go_at_call 76; refine (nan64_ok _ _).mono ?_; rintro e w' ⟨rfl, rfl⟩)
      go_ret
      exact ⟨rfl, rfl⟩
    · rw [if_neg h2]
      go_enter Tryd.func47, Tryd.ntmps47
      go_wp2_with (go_at_call 76; refine (nan64_ok _ _).mono ?_; rintro e w' ⟨rfl, rfl⟩)
      go_ret
      exact ⟨rfl, rfl⟩
theorem cmpV_lt {a b : Int} : cmpV a b < 0 ↔ a < b := by unfold cmpV; split <;> (try split) <;> omega
theorem cmpV_eq {a b : Int} : cmpV a b = 0 ↔ a = b := by unfold cmpV; split <;> (try split) <;> omega
set_option maxHeartbeats 2000000 in
theorem idxc_ok (x : Sm) (t : Int) (w : World) : Calls Tryd.prog 84 #[.agg #[.int .i64 x.a, .int .i64 x.v], .int .i64 t] w fun e w' => e = .returned (.int .i64 (cmpV x.a t)) ∧ Below w.heap.size w w' := by
  have hb := below_box w (.cells #[.int .i64 x.a, .int .i64 x.v] 49)
  have hn := two_at (new_at w (.cells #[.int .i64 x.a, .int .i64 x.v] 49))
  obtain ⟨u0, u1⟩ := hn
  obtain ⟨xa, xv⟩ := x
  dsimp only at hb u0 u1 ⊢
  have HC := Lib.hid (fun V => cmp64_ok xa t V)
  have HB := Lib.hid hb
  clear hb
  go_enter Tryd.func84, Tryd.ntmps84
  go_wp2_with (go_at_call 47; refine (HC.out _).mono ?_; rintro e w1 ⟨rfl, rfl⟩)
  go_ret
  exact ⟨rfl, HB.out⟩
/-- How many samples lie ahead of a time. -/
def low (L : List Sm) (t : Int) : Nat := L.countP fun x => decide (x.a < t)
theorem low_at {L : List Sm} (h : L.Pairwise fun x y => x.a < y.a) (t : Int) : (∀ i, i < low L t → (sm L i).a < t) ∧ (∀ i, low L t ≤ i → i < L.length → t ≤ (sm L i).a) := by
  have e : low L t = upto L (t - 1) := by
    unfold low upto
    apply List.countP_congr
    intro x _
    simp only [decide_eq_true_eq]
    omega
  rw [e]
  obtain ⟨h1, h2⟩ := upto_at h (t - 1)
  exact ⟨fun i hi => by have := h1 i hi; omega, fun i h3 h4 => by have := h2 i h3 h4; omega⟩
theorem low_is {L : List Sm} {t : Int} {k : Nat} (hk : k ≤ L.length) (h1 : ∀ i, i < k → (sm L i).a < t) (h2 : ∀ i, k ≤ i → i < L.length → t ≤ (sm L i).a) : low L t = k := by
  have e : low L t = upto L (t - 1) := by
    unfold low upto
    apply List.countP_congr
    intro x _
    simp only [decide_eq_true_eq]
    omega
  rw [e]
  exact upto_is hk (fun i hi => by have := h1 i hi; omega) fun i h3 h4 => by have := h2 i h3 h4; omega
/-- Is there a sample at a time? -/
def isAt (L : List Sm) (t : Int) : Bool := decide (low L t < L.length) && decide ((sm L (low L t)).a = t)
/-- The program's index. -/
theorem idx_is {L : List Sm} (h : L.Pairwise fun x y => x.a < y.a) (t : Int) : idx L t = if isAt L t = true then (low L t : Int) else (low L t : Int) - 1 := by
  obtain ⟨l1, l2⟩ := low_at h t
  have hle : low L t ≤ L.length := List.countP_le_length
  have hlt : ∀ {i j : Nat}, i < j → j < L.length → (sm L i).a < (sm L j).a := fun {i j} hij hj => by
    rw [sm_el hj, sm_el (show i < L.length by omega)]
    exact (List.pairwise_iff_getElem.1 h) i j (by omega) hj hij
  unfold idx isAt
  generalize low L t = k at *
  by_cases h1 : k < L.length ∧ (sm L k).a = t
  · have hu : upto L t = k + 1 := upto_is (by omega) (fun i hi => by
      rcases Nat.lt_or_ge i k with h2 | h2
      · have := l1 i h2; omega
      · obtain rfl : i = k := by omega
        omega) fun i h2 h3 => by have := hlt (i := k) (j := i) (by omega) h3; omega
    rw [hu, if_pos (by rw [decide_eq_true h1.1, decide_eq_true h1.2]; rfl)]; omega
  · have hu : upto L t = k := upto_is hle (fun i hi => by have := l1 i hi; omega) fun i h2 h3 => by
      have h4 := l2 i h2 h3
      rcases Nat.lt_or_ge k i with h5 | h5
      · have := l2 k (Nat.le_refl _) (by omega); have := hlt h5 h3; omega
      · obtain rfl : i = k := by omega
        have : (sm L i).a ≠ t := fun e => h1 ⟨h3, e⟩
        omega
    rw [hu, if_neg (by simp only [Bool.and_eq_true, decide_eq_true_eq]; exact h1)]
theorem low_le (L : List Sm) (t : Int) : low L t ≤ L.length := List.countP_le_length
set_option maxRecDepth 100000 in
set_option maxHeartbeats 4000000 in
theorem bin_ok (A : Option Addr) (c : Nat) (L : List Sm) (t : Int) (w : World) (hL : SAt w A c L) (hs : OkS L) :
    Calls Tryd.prog 83 #[.slice A L.length c, .int .i64 t, .func (.func 84) #[] #[]] w fun e w' => e = .returned (.tuple #[.int .i64 (low L t : Int), .bool (isAt L t)]) ∧ Below w.heap.size w w' := by
  have hlen := hs.len
  have hcm := hL.2.1
  have hlc := hL.1
  unfold maxLen at hcm
  have HX := Lib.hid (And.intro hL hs)
  clear hL hs
  go_enter Tryd.func83, Tryd.ntmps83
  go_upto_region 3 with (fail)
  go_loopw [9, 10] (fun x y wr => ∃ i j : Nat, i ≤ j ∧ j ≤ L.length ∧ x = .int .i64 (i : Int) ∧ y = .int .i64 (j : Int) ∧ (∀ k, k < i → (sm L k).a < t) ∧ (∀ k, j ≤ k → k < L.length → t ≤ (sm L k).a) ∧ Below w.heap.size w wr) (fun x y _ => (intOf y).toNat - (intOf x).toNat)
  case atStart => exact ⟨0, L.length, Nat.zero_le _, Nat.le_refl _, rfl, rfl, fun k hk => by omega, fun k _ hk => by omega, Below.refl _ _⟩
  case round =>
    obtain ⟨i, j, hij, hj, rfl, rfl, h1, h2, hb⟩ := hrel
    by_cases hlt : i < j
    · obtain ⟨m, hm⟩ : ∃ m, m = (i + j) / 2 := ⟨_, rfl⟩
      have hq : ((i : Int) + (j : Int)) / 2 = (m : Int) := by omega
      have hm1 : i ≤ m := by omega
      have hm2 : m < j := by omega
      have hb' := HX.out.1.below hb (Nat.le_refl _)
      obtain ⟨g, o, rfl, hg, d0, d1⟩ := hb'.s2 (j := m) (by omega)
      have hml : (m : Int) < (L.length : Int) := by omega
      have hlow : (sm L m).a < t → ∀ k, k < m + 1 → (sm L k).a < t := fun h k hk => by
        rcases Nat.lt_or_ge k m with h3 | h3
        · have := HX.out.2.lt h3 (by omega); omega
        · obtain rfl : k = m := by omega
          exact h
      have hhigh : ¬ (sm L m).a < t → ∀ k, m ≤ k → k < L.length → t ≤ (sm L k).a := fun h k h3 h4 => by
        rcases Nat.lt_or_ge m k with h5 | h5
        · have := HX.out.2.lt h5 h4; omega
        · obtain rfl : k = m := by omega
          omega
      have hcc := fun V => idxc_ok (sm L m) t V
      have hcv := @cmpV_lt (sm L m).a t
      generalize cmpV (sm L m).a t = cv at *
      generalize sm L m = x at *
      obtain ⟨xa, xv⟩ := x
      dsimp only at d0 d1 hlow hhigh hcc hcv
      have HC := Lib.hid (And.intro hcc (And.intro hlow (And.intro hhigh (And.intro h1 (And.intro h2 hb)))))
      have HM := Lib.hid (And.intro hm hcv)
      clear hcc hlow hhigh h1 h2 hb hb' hm hcv
      by_cases hcv : cv < 0
      · have HL := Lib.hid (HC.out.2.1 (HM.out.2.1 hcv))
        go_wp2_with (go_at_call 84; refine (HC.out.1 _).mono ?_; rintro e w1 ⟨rfl, hb1⟩; have H1 := Lib.hid (HC.out.2.2.2.2.2.trans (hb1.mono HC.out.2.2.2.2.2.size)); clear hb1)
        go_roundw
        case rel => exact ⟨m + 1, j, by omega, by omega, by go_num, rfl, HL.out, HC.out.2.2.2.2.1, H1.out⟩
        case measure => simp [intOf]; omega
      · have HL := Lib.hid (HC.out.2.2.1 fun e => hcv (HM.out.2.2 e))
        go_wp2_with (go_at_call 84; refine (HC.out.1 _).mono ?_; rintro e w1 ⟨rfl, hb1⟩; have H1 := Lib.hid (HC.out.2.2.2.2.2.trans (hb1.mono HC.out.2.2.2.2.2.size)); clear hb1)
        go_roundw
        case rel => exact ⟨i, m, by omega, by omega, rfl, by go_num, HC.out.2.2.2.1, HL.out, H1.out⟩
        case measure => simp [intOf]; omega
    · obtain rfl : i = j := by omega
      have hlo := low_is hj h1 h2
      have hr : isAt L t = (decide (i < L.length) && decide ((sm L i).a = t)) := by unfold isAt; rw [hlo]
      have HR := Lib.hid (And.intro hlo (And.intro hr hb))
      clear h1 h2 hlo hr
      by_cases hil : i < L.length
      · have hb' := HX.out.1.below hb (Nat.le_refl _)
        obtain ⟨g, o, rfl, hg, d0, d1⟩ := hb'.s2 hil
        have hcc := fun V => idxc_ok (sm L i) t V
        have hcv := @cmpV_eq (sm L i).a t
        generalize cmpV (sm L i).a t = cv at *
        generalize sm L i = x at *
        obtain ⟨xa, xv⟩ := x
        dsimp only at d0 d1 hcc hcv
        have hbe : (cv == 0) = decide (xa = t) := by rw [Bool.eq_iff_iff, beq_iff_eq, decide_eq_true_eq]; exact hcv
        have HC := Lib.hid (And.intro hcc hbe)
        clear hcc hcv hb hb' hbe
        go_wp2_with (go_at_call 84; refine (HC.out.1 _).mono ?_; rintro e w1 ⟨rfl, hb1⟩; have H1 := Lib.hid (HR.out.2.2.trans (hb1.mono HR.out.2.2.size)); clear hb1)
        go_ret2
        refine ⟨?_, H1.out⟩
        rw [HR.out.1, HR.out.2.1, decide_eq_true hil, Bool.true_and, ← HC.out.2]
        first | done | rfl
      · clear hb
        go_wp2
        go_ret2
        refine ⟨?_, HR.out.2.2⟩
        rw [HR.out.1, HR.out.2.1, decide_eq_false hil, Bool.false_and]
        first | done | rfl
set_option maxHeartbeats 4000000 in
/-- The index of the sample that is valid at a time. -/
theorem index_ok (A : Option Addr) (c : Nat) (L : List Sm) (t : Int) (W : World) (hL : SAt W A c L) (hs : OkS L) : Calls Tryd.prog 63 #[sv A L.length c, .int .i64 t] W fun e w' => e = .returned (.int .i64 (idx L t)) ∧ Below W.heap.size W w' := by
  have hb := below_box W (.cells #[.slice A L.length c] 24)
  have hn := one_at (new_at W (.cells #[.slice A L.length c] 24))
  have hbin := bin_ok A c L t _ (hL.below hb (Nat.le_refl _)) hs
  have hi := idx_is hs.asc t
  have hl := low_le L t
  have hlen := hs.len
  generalize low L t = lo at *
  have HX := Lib.hid (And.intro hb (And.intro hbin hi))
  clear hb hbin hi hL hs
  go_enter Tryd.func63, Tryd.ntmps63
  go_upto_region 1 with (fail)
  generalize W.alloc (.cells #[.slice A L.length c] 24) = V at *
  cases hf : isAt L t with
  | true =>
    rw [hf] at HX
    clear hf
    go_wp2_with (go_at_call 83; refine HX.out.2.1.mono ?_; rintro e w1 ⟨rfl, hb1⟩; have H1 := Lib.hid (HX.out.1.trans (hb1.mono HX.out.1.size)); clear hb1)
    go_ret
    exact ⟨by rw [HX.out.2.2]; first | done | rfl, H1.out⟩
  | false =>
    rw [hf] at HX
    clear hf
    go_wp2_with (go_at_call 83; refine HX.out.2.1.mono ?_; rintro e w1 ⟨rfl, hb1⟩; have H1 := Lib.hid (HX.out.1.trans (hb1.mono HX.out.1.size)); clear hb1)
    go_ret
    exact ⟨by rw [HX.out.2.2]; first | done | rfl, H1.out⟩
end Sx
end Go.Proofs.YtionocafkaemiaaDoor
namespace Go.Proofs.YtionocafkaemiaaDoor
open Go.RowKit Go.Lib
namespace Sx

set_option maxHeartbeats 4000000 in
theorem ask_ok (A : Option Addr) (c : Nat) (L : List Sm) (f t : Int) (W : World) (hL : SAt W A c L) : Calls Tryd.prog 40 #[sv A L.length c, .int .i64 f, .int .i64 t] W fun e w' => e = .returned (.int .i64 (askS L f t)) ∧ Below W.heap.size W w' := by
  have hb := below_box W (.cells #[.slice A L.length c] 24)
  have hn := one_at (new_at W (.cells #[.slice A L.length c] 24))
  have hcm := hL.2.1
  have hlc := hL.1
  unfold maxLen at hcm
  have hCK := fun V (hV : Below W.heap.size W V) => check_ok A c L V (hL.below hV (Nat.le_refl _))
  have HF := Lib.hid (fun V => isTime_ok f V)
  have HT := Lib.hid (fun V => isTime_ok t V)
  by_cases hck : checkS L = 0
  · have hs := (checkS_ok L).1 hck
    have hAT := fun V (hV : Below W.heap.size W V) => index_ok A c L f V (hL.below hV (Nat.le_refl _)) hs
    have hv : askS L f t = if (inT f && inT t && decide (f < t)) = false then 7 else if idx L f < 0 then 4 else 0 := by unfold askS; rw [if_neg (by omega)]
    rw [hck] at hCK
    have hlen := hs.len
    have hul := upto_le L f
    have hix : -1 ≤ idx L f ∧ idx L f ≤ 500 := by unfold idx; omega
    obtain ⟨ix0, ix1⟩ := hix
    generalize idx L f = ix at *
    have HX := Lib.hid (And.intro hb (And.intro hCK (And.intro hAT hv)))
    clear hb hCK hAT hL hv hck hs hul hlen
    cases hf : inT f with
    | false =>
      rw [hf] at HF HX
      have HV := Lib.hid (HX.out.2.2.2.trans (if_pos (by simp)))
      clear hf
      go_enter Tryd.func40, Tryd.ntmps40
      go_upto_region 1 with (fail)
      generalize W.alloc (.cells #[.slice A L.length c] 24) = V at *
      go_wp2_with (first | (go_at_call 24; refine (HX.out.2.1 _ HX.out.1).mono ?_; rintro e w1 ⟨rfl, hb1⟩; replace hn := cell_keep2 hb1 hn; have H1 := Lib.hid (HX.out.1.trans (hb1.mono HX.out.1.size)); clear hb1) | (go_at_call 49; refine (HF.out _).mono ?_; rintro e w2 ⟨rfl, hw⟩; have hw := hw.symm; subst hw))
      go_ret
      exact ⟨by rw [HV.out]; rfl, H1.out⟩
    | true =>
      rw [hf] at HF HX
      cases ht : inT t with
      | false =>
        rw [ht] at HT HX
        have HV := Lib.hid (HX.out.2.2.2.trans (if_pos (by simp)))
        clear hf ht
        go_enter Tryd.func40, Tryd.ntmps40
        go_upto_region 1 with (fail)
        generalize W.alloc (.cells #[.slice A L.length c] 24) = V at *
        go_wp2_with (first | (go_at_call 24; refine (HX.out.2.1 _ HX.out.1).mono ?_; rintro e w1 ⟨rfl, hb1⟩; replace hn := cell_keep2 hb1 hn; have H1 := Lib.hid (HX.out.1.trans (hb1.mono HX.out.1.size)); clear hb1) | (go_at_call 49; with_reducible refine (HF.out _).mono ?_; rintro e w2 ⟨rfl, hw⟩; have hw := hw.symm; subst hw) | (go_at_call 49; with_reducible refine (HT.out _).mono ?_; rintro e w2 ⟨rfl, hw⟩; have hw := hw.symm; subst hw))
        go_ret
        exact ⟨by rw [HV.out]; rfl, H1.out⟩
      | true =>
        rw [ht] at HT HX
        by_cases hft : f < t
        · rw [decide_eq_true hft] at HX
          have hft' : ¬ f ≥ t := by omega
          by_cases hi : ix < 0
          · have HV := Lib.hid ((HX.out.2.2.2.trans (if_neg (by simp))).trans (if_pos hi))
            clear hf ht hft
            go_enter Tryd.func40, Tryd.ntmps40
            go_upto_region 1 with (fail)
            generalize W.alloc (.cells #[.slice A L.length c] 24) = V at *
            go_wp2_with (first | (go_at_call 24; refine (HX.out.2.1 _ HX.out.1).mono ?_; rintro e w1 ⟨rfl, hb1⟩; replace hn := cell_keep2 hb1 hn; have H1 := Lib.hid (HX.out.1.trans (hb1.mono HX.out.1.size)); clear hb1) | (go_at_call 49; with_reducible refine (HF.out _).mono ?_; rintro e w2 ⟨rfl, hw⟩; have hw := hw.symm; subst hw) | (go_at_call 49; with_reducible refine (HT.out _).mono ?_; rintro e w2 ⟨rfl, hw⟩; have hw := hw.symm; subst hw) | (go_at_call 63; refine (HX.out.2.2.1 _ H1.out).mono ?_; rintro e w3 ⟨rfl, hb3⟩; have H3 := Lib.hid (H1.out.trans (hb3.mono H1.out.size)); clear hb3))
            go_ret
            exact ⟨by rw [HV.out]; rfl, H3.out⟩
          · have HV := Lib.hid ((HX.out.2.2.2.trans (if_neg (by simp))).trans (if_neg hi))
            clear hf ht hft
            go_enter Tryd.func40, Tryd.ntmps40
            go_upto_region 1 with (fail)
            generalize W.alloc (.cells #[.slice A L.length c] 24) = V at *
            go_wp2_with (first | (go_at_call 24; refine (HX.out.2.1 _ HX.out.1).mono ?_; rintro e w1 ⟨rfl, hb1⟩; replace hn := cell_keep2 hb1 hn; have H1 := Lib.hid (HX.out.1.trans (hb1.mono HX.out.1.size)); clear hb1) | (go_at_call 49; with_reducible refine (HF.out _).mono ?_; rintro e w2 ⟨rfl, hw⟩; have hw := hw.symm; subst hw) | (go_at_call 49; with_reducible refine (HT.out _).mono ?_; rintro e w2 ⟨rfl, hw⟩; have hw := hw.symm; subst hw) | (go_at_call 63; refine (HX.out.2.2.1 _ H1.out).mono ?_; rintro e w3 ⟨rfl, hb3⟩; have H3 := Lib.hid (H1.out.trans (hb3.mono H1.out.size)); clear hb3))
            go_ret
            exact ⟨by rw [HV.out]; rfl, H3.out⟩
        · rw [decide_eq_false hft] at HX
          have hft' : f ≥ t := by omega
          have HV := Lib.hid (HX.out.2.2.2.trans (if_pos (by simp)))
          clear hf ht hft
          go_enter Tryd.func40, Tryd.ntmps40
          go_upto_region 1 with (fail)
          generalize W.alloc (.cells #[.slice A L.length c] 24) = V at *
          go_wp2_with (first | (go_at_call 24; refine (HX.out.2.1 _ HX.out.1).mono ?_; rintro e w1 ⟨rfl, hb1⟩; replace hn := cell_keep2 hb1 hn; have H1 := Lib.hid (HX.out.1.trans (hb1.mono HX.out.1.size)); clear hb1) | (go_at_call 49; with_reducible refine (HF.out _).mono ?_; rintro e w2 ⟨rfl, hw⟩; have hw := hw.symm; subst hw) | (go_at_call 49; with_reducible refine (HT.out _).mono ?_; rintro e w2 ⟨rfl, hw⟩; have hw := hw.symm; subst hw))
          go_ret
          exact ⟨by rw [HV.out]; rfl, H1.out⟩
  · have hv : askS L f t = checkS L := by unfold askS; rw [if_pos hck]
    have hne : (checkS L == 0) = false := by simp [hck]
    have hne2 : (checkS L != 0) = true := by simp [hck]
    rw [hv]
    have HX := Lib.hid (And.intro hb hCK)
    clear hb hCK hL hv hck
    generalize checkS L = cv at *
    go_enter Tryd.func40, Tryd.ntmps40
    go_upto_region 1 with (fail)
    generalize W.alloc (.cells #[.slice A L.length c] 24) = V at *
    go_wp2_with (go_at_call 24; refine (HX.out.2 _ HX.out.1).mono ?_; rintro e w1 ⟨rfl, hb1⟩; have H1 := Lib.hid (HX.out.1.trans (hb1.mono HX.out.1.size)); clear hb1)
    go_ret
    exact ⟨rfl, H1.out⟩
end Sx
end Go.Proofs.YtionocafkaemiaaDoor
