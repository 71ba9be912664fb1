/- strings.Builder at this program: what is written goes behind what is there. Reports: whether all names are names; numbers as digits. -/
import Derived.Test.YtionocafkaemiaaDoorJR1
import Derived.Test.YtionocafkaemiaaDoorJShRep
import Derived.Shelf.Strings.BuilderK
import Derived.Test.YtionocafkaemiaaDoorJW1
import Derived.Shelf.Strconv.Itoa4
import Derived.Lib.SmallJoins
namespace Go.Proofs.YtionocafkaemiaaDoor
open Go.Shelf Go.RowKit Go.Lib
namespace Sx
abbrev TB : TypeId := 101
abbrev TU : TypeId := 5
/-- A builder that has been used. -/
abbrev BAt (B b : Nat) (bs : List Value) (w : World) : Prop := Lib.BuilderAtF TB TU B b (.pointer (some ⟨b, 0, none⟩)) bs w
theorem bld_size : (Tryd.prog.info? TB).map (·.size) = some 2 := by kernel_rfl
theorem bld_lies : liesAt Tryd.prog Tryd.prog.depth TB (2 / Tryd.prog.cellsOf TB) 0 TB 1 = true := by kernel_rfl
theorem byte_row : (Tryd.prog.info? TU).map (fun i => (i.zero, i.size, i.bytes)) = some (some (.int .u8 0), 1, 1) := by kernel_rfl
theorem bst_extra : Builder.Extra Tryd.prog Tryd.bst_ren where
  sizeBuilder := by kernel_rfl
  liesBuilder := by kernel_rfl
  t5 := Tryd.underlying5
  a5 := Tryd.isAgg5
  z5 := Tryd.sizeOf5
  v5 := Tryd.zeroValue5
  infoByte := by kernel_rfl
  cellsByte := by kernel_rfl
  sizeByte := by kernel_rfl
  neB5 := by decide
set_option maxHeartbeats 1000000 in
set_option maxRecDepth 100000 in
theorem bcc_used (b : Nat) (w : World) (h0 : w.cell? ⟨b, 0, none⟩ = some (.pointer (some ⟨b, 0, none⟩))) :
    Calls Tryd.prog 88 #[.pointer (some ⟨b, 0, none⟩)] w fun e w' => e = .returned (.tuple #[]) ∧ w' = w := by
  obtain ⟨j, hj, _⟩ := Option.map_eq_some_iff.1 bld_size
  go_enter Tryd.func88, Tryd.ntmps88
  go_wp2
  rw [Lib.run_neq_ptr_same w _ Tryd.underlying99 hj]
  go_wp2
  go_end0
  exact ⟨rfl, rfl⟩
set_option maxHeartbeats 1000000 in
set_option maxRecDepth 100000 in
theorem bcc_fresh (b : Nat) (w : World) (h0 : w.cell? ⟨b, 0, none⟩ = some (.pointer none)) (hsh : w.shape? b = some (TB, 2)) (hfz : w.frozen? ⟨b, 0, none⟩ = false) :
    Calls Tryd.prog 88 #[.pointer (some ⟨b, 0, none⟩)] w fun e w' => e = .returned (.tuple #[]) ∧ w' = w.setCell ⟨b, 0, none⟩ (.pointer (some ⟨b, 0, none⟩)) := by
  obtain ⟨j, hj, hjs⟩ := Option.map_eq_some_iff.1 bld_size
  go_enter Tryd.func88, Tryd.ntmps88
  go_wp2
  rw [Lib.run_to_unsafe w ⟨b, 0, none⟩ Tryd.underlying99 Tryd.underlying139 hj (by rw [hjs]; decide) hsh (Nat.zero_lt_succ 1)]
  simp only [Result.andThen]
  rw [Oper.upon_value]
  go_wp2
  rw [run_callFunc_extern Tryd.func103 (by kernel_rfl) (by kernel_rfl) (by kernel_rfl) (e := Extern.AbiNoEscape.same) (by kernel_rfl)]
  rw [Lib.run_noEscape]
  simp only [Result.andThen]
  rw [Oper.upon_value]
  go_wp2
  rw [Lib.run_from_unsafe w ⟨b, 0, none⟩ Tryd.underlying139 Tryd.underlying99 hj hsh bld_lies]
  simp only [Result.andThen]
  rw [Oper.upon_value]
  go_wp2
  go_end0
  exact ⟨rfl, rfl⟩
theorem bcc_ok (B b : Nat) (bs : List Value) (w : World) (h : Lib.IsBuilderF TB TU B b bs w) :
    Calls Tryd.prog 88 #[.pointer (some ⟨b, 0, none⟩)] w fun e w' => e = .returned (.tuple #[]) ∧ (BAt B b bs w' ∧ Below B w w' ∧ Lib.OthersKept TU (some b) w w') := by
  rcases h with h | h
  · refine (bcc_fresh b w h.cell0 h.shape h.frozen0).mono ?_
    rintro e w' ⟨rfl, rfl⟩
    exact ⟨rfl, h.used _, (Below.refl B w).setCell (p := ⟨b, 0, none⟩) h.1 _, (Lib.OthersKept.refl _ _ w).setCell ⟨b, 0, none⟩ rfl _⟩
  · refine (bcc_used b w h.cell0).mono ?_
    rintro e w' ⟨rfl, rfl⟩
    exact ⟨rfl, h, Below.refl B _, Lib.OthersKept.refl _ _ _⟩
theorem lt_block {w : World} {b : Nat} {o : Obj} (h : w.heap[b]? = some o) : b < w.heap.size := (Array.getElem?_eq_some_iff.1 h).1
set_option maxHeartbeats 2000000 in
set_option maxRecDepth 100000 in
theorem bws_ok (B b : Nat) (bs : List Value) (s : ByteArray) (w : World) (h : Lib.IsBuilderF TB TU B b bs w) (hlen : bs.length + s.size ≤ 140737488355328) (hBw : B ≤ w.heap.size) :
    Calls Tryd.prog 68 #[.pointer (some ⟨b, 0, none⟩), .string s] w fun e w' => e = .returned (.tuple #[.int .i64 s.size, .nilIface]) ∧ (BAt B b (bs ++ Lib.strCells s) w' ∧ Below B w w' ∧ Lib.OthersKept TU (some b) w w') := by
  obtain ⟨i0, hi, hz0, hz1, hz2⟩ := info_parts byte_row
  go_enter Tryd.func68, Tryd.ntmps68
  go_wp2_with (go_at_call 88; refine (bcc_ok B b bs _ h).mono ?_)
  rintro e w1 ⟨rfl, h1, hb1, hk1⟩
  obtain ⟨hB, v, hbk, hown, hne⟩ := h1
  have c1 : w1.cell? ⟨b, 1, none⟩ = some v := by rw [Lib.cell_of_heap hbk]; rfl
  go_wp2_with (at_builtin; refine Lib.wpList_append_own_stringF _ rfl _ _ 44 9 rfl B TU i0 Tryd.underlying44 Tryd.underlying9 hi hz0 hz1 hz2 _ _ _ rfl hown s rfl ?c3 ?c4 ?c5 ?_)
  case c3 => unfold maxLen; omega
  case c4 => omega
  case c5 => have := hb1.size; omega
  intro v' w2 hown' hgrow _
  have hlt := lt_block hbk
  have hb2 : w2.heap[b]? = some (.cells #[.pointer (some ⟨b, 0, none⟩), v] TB (0, 0)) := by
    rw [hgrow.block b hlt (fun e => hne e.symm)]
    exact hbk
  have d1 : w2.cell? ⟨b, 1, none⟩ = some v := by rw [Lib.cell_of_heap hb2]; rfl
  have f1 : w2.frozen? ⟨b, 1, none⟩ = false := Lib.frozen_of_heap hb2 1
  obtain ⟨ao, n', cap, rfl⟩ : ∃ ao n' cap, v' = .slice ao n' cap := by
    rcases hown'.2 with ⟨hv, _⟩ | ⟨g, cap, cur, fz, hv, _⟩
    · exact ⟨_, _, _, hv⟩
    · exact ⟨_, _, _, hv⟩
  go_wp2
  go_ret2
  refine ⟨rfl, ?_, ?_, (hk1.grown hgrow (Lib.ownsRowF_kind hown)).setCell ⟨b, 1, none⟩ rfl _⟩
  · exact Lib.BuilderAtF.put (T := TB) (e := TU) hB hb2 (bs' := bs ++ Lib.strCells s) (by simpa [Lib.strCells_length] using hown') (by decide)
  · exact (hb1.grown hgrow (by have := hb1.size; omega) (fun k hk => (hown.lt k hk).1)).setCell (p := ⟨b, 1, none⟩) hB _
set_option maxHeartbeats 2000000 in
set_option maxRecDepth 100000 in
theorem bwb_ok (B b : Nat) (bs : List Value) (c : Int) (w : World) (h : Lib.IsBuilderF TB TU B b bs w) (hlen : bs.length + 1 ≤ 140737488355328) (hBw : B ≤ w.heap.size) :
    Calls Tryd.prog 71 #[.pointer (some ⟨b, 0, none⟩), .int .u8 c] w fun e w' => e = .returned .nilIface ∧ (BAt B b (bs ++ [.int .u8 c]) w' ∧ Below B w w' ∧ Lib.OthersKept TU (some b) w w') := by
  obtain ⟨i0, hi, hz0, hz1, hz2⟩ := info_parts byte_row
  go_enter Tryd.func71, Tryd.ntmps71
  go_wp2_with (go_at_call 88; refine (bcc_ok B b bs _ h).mono ?_)
  rintro e w1 ⟨rfl, h1, hb1, hk1⟩
  obtain ⟨hB, v, hbk, hown, hne⟩ := h1
  have c1 : w1.cell? ⟨b, 1, none⟩ = some v := by rw [Lib.cell_of_heap hbk]; rfl
  go_wp2_with (at_builtin; refine wpList_append_ownF _ rfl _ _ 44 rfl B TU i0 (.int .u8 0) 1 1 Tryd.underlying44 hi hz0 hz1 hz2 rfl (by decide) _ _ _ rfl (hown.alloc _) ⟨w1.heap.size, 0, none⟩ 1 1 [.int .u8 c] rfl rfl ?c1 ?c2 ?c3 ?c4 ?c5 ?_)
  case c1 =>
    intro j u hj
    match j, hj with
    | 0, hj => simp at hj; subst hj; simp [Addr.add]
  case c2 => intro u hu; simp at hu; subst hu; rfl
  case c3 => unfold maxLen; omega
  case c4 => omega
  case c5 => have := hb1.size; simp; omega
  intro v' w2 hown' hgrow _
  have hlt := lt_block hbk
  have hb2 : w2.heap[b]? = some (.cells #[.pointer (some ⟨b, 0, none⟩), v] TB (0, 0)) := by
    rw [hgrow.block b (by simp; omega) (fun e => hne e.symm), Lib.alloc_old w1 _ b hlt]
    exact hbk
  have d1 : w2.cell? ⟨b, 1, none⟩ = some v := by rw [Lib.cell_of_heap hb2]; rfl
  have f1 : w2.frozen? ⟨b, 1, none⟩ = false := Lib.frozen_of_heap hb2 1
  obtain ⟨g, cap, rfl⟩ : ∃ g cap, v' = .slice (some ⟨g, 0, none⟩) (bs.length + 1) cap := by
    rcases hown'.2 with ⟨_, h0⟩ | ⟨g, cap, cur, fz, hv, _⟩
    · omega
    · exact ⟨g, cap, hv⟩
  go_wp2
  go_ret
  refine ⟨rfl, ?_, ?_, ((hk1.alloc _).grown hgrow (Lib.ownsRowF_kind (hown.alloc _))).setCell ⟨b, 1, none⟩ rfl _⟩
  · exact Lib.BuilderAtF.put (T := TB) (e := TU) hB hb2 (bs' := bs ++ [.int .u8 c]) (by simpa using hown') (by decide)
  · exact ((hb1.alloc (by have := hb1.size; omega) _).grown hgrow (by have := hb1.size; simp; omega) (fun k hk => (hown.lt k hk).1)).setCell (p := ⟨b, 1, none⟩) hB _
end Sx
end Go.Proofs.YtionocafkaemiaaDoor
namespace Go.Proofs.YtionocafkaemiaaDoor
open Go.Shelf Go.RowKit Go.Lib
namespace Sx
abbrev enS (s : ByteArray) : List Value := [.string s]
theorem ENS : Enc enS 1 := ⟨by omega, fun _ => rfl, fun x u h => by
  simp only [List.mem_cons, List.not_mem_nil, or_false] at h
  rw [h]; rfl⟩
abbrev enL (x : Ser) : List Value := [.slice x.A x.L.length x.c]
theorem ENL : Enc enL 1 := ⟨by omega, fun _ => rfl, fun x u h => by
  simp only [List.mem_cons, List.not_mem_nil, or_false] at h
  rw [h]; rfl⟩
theorem EAt.one {α : Type} {f : α → Value} {w : World} {A : Option Addr} {c : Nat} {L : List α} (h : EAt (fun x => [f x]) 1 w A c L) {j : Nat} {x : α} (hx : L[j]? = some x) : ∃ g o, A = some ⟨g, o, none⟩ ∧ g < w.heap.size ∧ w.cell? ⟨g, o + j, none⟩ = some (f x) := by
  obtain ⟨g, o, hA, hg, d⟩ := h.2.2 j x hx
  refine ⟨g, o, hA, hg, ?_⟩
  have := d 0 _ (by omega) rfl
  rwa [Nat.mul_one] at this
/-- A string of a size that the walk can do with. -/
abbrev SB : Type := {s : ByteArray // s.size < 1099511627776}
instance : Inhabited SB := ⟨⟨.empty, by decide⟩⟩
theorem sb_ex : ∀ {Ls : List ByteArray}, (∀ s, s ∈ Ls → s.size < 1099511627776) → ∃ zs : List SB, zs.map (·.1) = Ls
  | [], _ => ⟨[], rfl⟩
  | s :: Ls, h => by
    obtain ⟨zs, hz⟩ := sb_ex (fun x hx => h x (List.mem_cons_of_mem _ hx))
    exact ⟨⟨s, h s (List.mem_cons_self ..)⟩ :: zs, by rw [List.map_cons, hz]⟩
theorem rep1_ok (s : ByteArray) (hs : s.size < 1099511627776) (W : World) : Calls Tryd.prog 66 #[.string s] W fun e w' => e = .returned (.bool (!nameS s)) ∧ w' = W := by
  have hN := fun V => name_ok s hs V
  generalize nameS s = b at *
  go_enter Tryd.func66, Tryd.ntmps66
  go_wp2_with (go_at_call 67; refine (hN _).mono ?_; rintro e w' ⟨rfl, hw⟩; have hw := hw.symm; subst hw)
  go_ret
  exact ⟨rfl, rfl⟩
set_option maxHeartbeats 1000000 in
theorem contS_ok (A : Option Addr) (c : Nat) (Ls : List ByteArray) (W : World) (h : EAt enS 1 W A c Ls) (hs : ∀ s, s ∈ Ls → s.size < 1099511627776) :
    Calls Tryd.prog 65 #[.slice A Ls.length c, .func (.func 66) #[] #[]] W fun e w' => e = .returned (.bool (!(Ls.all nameS))) ∧ ∃ q, w' = W.drewN q := by
  by_cases h0 : Ls = []
  · subst h0
    refine (AnyE.slices_ContainsFunc_empty Tryd.contS A c _ W).mono ?_
    rintro e w' ⟨rfl, rfl⟩
    exact ⟨rfl, 0, rfl⟩
  · obtain ⟨zs, hz⟩ := sb_ex hs
    obtain ⟨g, o, rfl, hg, _⟩ := h.one (f := .string) (j := 0) (x := nm Ls 0) (nm_get (List.length_pos_iff.2 h0))
    have hlen : zs.length = Ls.length := by rw [← hz, List.length_map]
    have hmax := h.1
    have hmax2 := h.2.1
    unfold maxLen at hmax2
    have eg : ∀ args w, (callFunc 66 args).run Tryd.prog w = .ok (.enter 66 args) w := enters_of Tryd.func66 (by kernel_rfl) rfl
    have := AnyE.slices_ContainsFunc Tryd.contS (fun x : SB => Value.string x.1) (fun x => !nameS x.1) 66 #[] eg g o Ls.length c zs W (fun V x _ => (rep1_ok x.1 x.2 V).mono fun _ _ h => ⟨h.1, 0, h.2⟩) (by omega) (by omega) (fun j hj => by
      have hj2 : zs[j]? = some zs[j]! := by rw [List.getElem?_eq_getElem hj]; simp [hj]
      have hx : Ls[j]? = some zs[j]!.1 := by rw [← hz, List.getElem?_map, hj2]; rfl
      obtain ⟨g', o', e1, _, e3⟩ := h.one (f := .string) hx
      injection e1 with e1; injection e1 with e1 e2
      subst e1; subst e2
      exact e3)
    refine this.mono ?_
    rintro e w' ⟨rfl, hw⟩
    refine ⟨?_, hw⟩
    rw [← hlen, List.take_length, ← hz]
    congr 2
    rw [List.all_map, List.not_all_eq_any_not]
    rfl
theorem fmt_ok (v : Int) (h0 : 0 ≤ v) (h1 : v ≤ 1000000000000) (W : World) (hT : Lib.TabIs Tryd.prog W "internal/strconv.uint64pow10" .u64 Lib.pow10Tab) :
    Calls Tryd.prog 70 #[.int .i64 v, .int .i64 10] W fun e w' => e = .returned (.string ⟨(Lib.itoa v).toArray⟩) ∧ ∃ k os, w' = Go.Sort.grow (W.drewN k) os :=
  Any.strconv_FormatInt_10 Tryd.fmtI v (by omega) (by omega) W hT
theorem bst_ok (B b : Nat) (l : List UInt8) (w : World) (h : Lib.IsBuilderF TB TU B b (Lib.byteCells l) w) (hBw : B ≤ w.heap.size) :
    Calls Tryd.prog 72 #[.pointer (some ⟨b, 0, none⟩)] w fun e w' => e = .returned (.string ⟨l.toArray⟩) ∧ (Lib.IsBuilderF TB TU B b (Lib.byteCells l) w' ∧ Below B w w' ∧ Lib.OthersKept TU (some b) w w') :=
  Any.Builder_String_any_k Tryd.bst bst_extra B b l w h hBw
end Sx
end Go.Proofs.YtionocafkaemiaaDoor
