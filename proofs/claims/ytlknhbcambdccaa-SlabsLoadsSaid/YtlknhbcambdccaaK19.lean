/- The allocated objects of a cache: the iterator. DERIVED: THE SHELF's CONTRACTS AT THIS DUMP, IN PLAIN WORDS (tools/lay-plain.mjs out of 'YtlknhbcambdccaaShelf0.lean', which tools/lay-shelf.mjs wrote): THE SAME DECLARATIONS UNDER THE SAME NAMES: 'import', 'namespace', 'open', 'def', 'theorem' AND NOTHING ELSE: no command of the shelf's: FOR A HAND-IN. Each laying: the table of numbers ('.._ren') and one theorem, a field a fact of the dump's own or the kernel's comparison; each contract: ONE APPLICATION. slices.Delete of one slab. give: an empty slab goes back to the allocator. -/
import Derived.Test.YtlknhbcambdccaaK18
import Derived.Shelf.SlLaysE
import Derived.Shelf.SlLaysE0
import Derived.Shelf.SlicesE.Delete
import Derived.Shelf.SlicesE.Clone
import Derived.Ground.SlgnProg
import Derived.Test.YtlknhbcambdccaaProg
import Derived.Test.YtlknhbcambdccaaK16
import Derived.Test.YtlknhbcambdccaaK15
import Derived.Test.YtlknhbcambdccaaK17
import Derived.Deep.RegionWith
namespace Go.Proofs.Ytlknhbcambdccaa
open Go.RowKit Go.Shelf
namespace Bu
attribute [local go_sem] Oper.semAt_some

def objP (size : Nat) (x : Slb) (i : Nat) : List Nat := ((List.range i).filter fun t => x.us.getD t false).map (addrS size x)
def objK (C : Ca) (k : Nat) : List Nat := (C.sl.take k).flatMap fun x => objP C.size x x.us.length
/-- The allocated objects. -/
def objC (C : Ca) : List Nat := C.sl.flatMap fun x => objP C.size x x.us.length

theorem objP_yes {size i : Nat} {x : Slb} (h : x.us[i]? = some true) : objP size x (i + 1) = objP size x i ++ [addrS size x i] := by
  unfold objP
  rw [List.range_succ, List.filter_append, List.map_append]
  simp [h]
theorem objP_no {size i : Nat} {x : Slb} (h : x.us[i]? = some false) : objP size x (i + 1) = objP size x i := by
  unfold objP
  rw [List.range_succ, List.filter_append, List.map_append]
  simp [h]
theorem objK_succ {C : Ca} {k : Nat} {x : Slb} (h : C.sl[k]? = some x) : objK C (k + 1) = objK C k ++ objP C.size x x.us.length := by
  obtain ⟨hk, he⟩ := List.getElem?_eq_some_iff.1 h
  unfold objK
  rw [List.take_succ_eq_append_getElem hk, List.flatMap_append, he]
  simp
theorem objK_all (C : Ca) : objK C C.sl.length = objC C := by unfold objK objC; rw [List.take_length]
theorem objP_len (size : Nat) (x : Slb) (i : Nat) : (objP size x i).length ≤ i := by
  unfold objP
  rw [List.length_map]
  have := List.length_filter_le (fun t => x.us.getD t false) (List.range i)
  simpa using this
theorem objK_len {C : Ca} (h : ∀ x ∈ C.sl, x.us.length ≤ 128) : ∀ k, k ≤ C.sl.length → (objK C k).length ≤ k * 128 := by
  intro k
  induction k with
  | zero => intro _; simp [objK]
  | succ k ih =>
    intro hk
    obtain ⟨x, hx⟩ : ∃ x, C.sl[k]? = some x := ⟨_, List.getElem?_eq_getElem (by omega)⟩
    have h1 := ih (by omega)
    have h2 := objP_len C.size x x.us.length
    have h3 := h x (List.mem_of_getElem? hx)
    rw [objK_succ hx, List.length_append]
    omega
theorem ok_len {C : Ca} {N : Nat} {L : List Blk} (h1 : CaOk C N L) : C.sl.length ≤ 1024 := by
  have key : ∀ (l : List Slb), l.Pairwise (fun a b => a.pg < b.pg) → ∀ s, (∀ y ∈ l, s ≤ y.pg ∧ y.pg < 1024) → s ≤ 1024 → l.length + s ≤ 1024 := by
    intro l
    induction l with
    | nil => intro _ s _ h; simpa using h
    | cons y l ih =>
      intro hp s hb hs
      rw [List.pairwise_cons] at hp
      have hy := hb y (List.mem_cons_self ..)
      have := ih hp.2 (y.pg + 1) (fun z hz => ⟨hp.1 z hz, (hb z (List.mem_cons_of_mem _ hz)).2⟩) (by omega)
      rw [List.length_cons]; omega
  have := key C.sl h1.asc 0 (fun y hy => ⟨Nat.zero_le _, by
    have h2 := st_le h1.st _ (h1.giv y hy)
    have h3 : y.pg + 2 ^ C.order ≤ 1024 := h2.2
    have := pow_pos2 C.order
    omega⟩) (by omega)
  omega

set_option maxRecDepth 100000 in
set_option maxHeartbeats 4000000 in
theorem objseq (n : Nat) (hn : 2 ≤ n) (b1 c b cap e : Nat) (own : Ow) (C : Ca) (N : Nat) (L : List Blk) (hok : CaOk C N L) (A0 : Option Addr) (R : List Nat) (V : World) (hC0 : Sl.CacheAt V own c b C e A0 cap R) :
    SeqZ Fence.wide n Try.prog 78 #[.pointer (some ⟨b1, 0, none⟩)] (fun a : Nat => #[.int .i64 (a : Int)]) (fun W => b1 < W.heap.size ∧ W.cell? ⟨b1, 0, none⟩ = some (.pointer (some ⟨c, 0, none⟩)))
      (fun W => ∀ z, own z ≠ none → W.heap[z]? = V.heap[z]?) (fun k => k = b1) (fun xs => xs = objC C) (fun _ => True) (fun pre _ => pre.length + 1 ≤ 131072) := by
  intro l J Jx own0 W ⟨hbs, hD⟩ hR hE hf hFJ hFJx hY h0
  have hul : ∀ x ∈ C.sl, x.us.length ≤ 128 := fun x hx => by rw [hok.len x hx]; exact (capa_pos hok).2.1
  have hpg : ∀ x ∈ C.sl, x.pg ≤ 1024 := fun x hx => by
    have h2 : x.pg + 2 ^ C.order ≤ 1024 := (st_le hok.st _ (hok.giv x hx)).2
    have := pow_pos2 C.order
    omega
  have hsl := ok_len hok
  have hsz := hok.sz.2.1
  obtain ⟨m, hm⟩ : ∃ m, m = C.sl.length := ⟨_, rfl⟩
  have hRm : R.length = m := hC0.len.trans hm.symm
  have hCc := (hE own0 [] W h0 c (by rw [hC0.ownC]; simp)).trans hC0.cell
  obtain ⟨_, _, _, _, c4, _, _, _⟩ := Sl.six_cells hCc
  rw [hRm] at c4
  have hKL := objK_len hul
  rw [← hm] at hKL hsl
  have HY := Lib.hid hY
  have HE := Lib.hid hE
  have hR1 := hR b1 rfl
  have HOR := Lib.hid (And.intro hR1 (And.intro hm (And.intro hRm (And.intro hul (And.intro hpg (And.intro hKL (And.intro hFJ hC0)))))))
  have hA : 1 ≤ m → ∃ g, A0 = some ⟨g, 0, none⟩ := fun h => by
    rcases hC0.row.2 with ⟨_, h0⟩ | ⟨g, cp, cur, hv, _⟩
    · omega
    · injection hv with hv; exact ⟨g, hv⟩
  have hcp : m ≤ cap := by
    rcases hC0.row.2 with ⟨hv, h0⟩ | ⟨g, cp, cur, hv, _, _, g1, g2, _⟩
    · omega
    · injection hv with _ _ h3; omega
  have HA := Lib.hid hA
  clear hY hR hE hR1 hok hul hpg hC0 hm hRm hKL hA hFJ hCc
  have hfn : Fence.wide.fn 43 := trivial
  have hdp : Fence.wide.depth.isSome = false := rfl
  have hn1 : 1 ≤ n := by omega
  refine callsIn_of_wp Try.func78 rfl trivial ?_ rfl
  simp only [Try.ntmps78, List.size_toArray, List.length_cons, List.length_nil, Nat.reduceAdd, Nat.reduceSub, Array.replicate_succ, Array.replicate_zero, List.push_toArray, List.append_toArray, List.nil_append, List.cons_append]
  gi_wp2
  gi_loopw [12] (fun i wr => ∃ (k : Nat) (ow : Ow), k ≤ m ∧ i = .int .i64 (k : Int) ∧ J ow (objK C k) wr ∧ Keeps own0 ow W wr) (fun i _ => m - (intOf i).toNat)
  case atStart => exact ⟨0, own0, Nat.zero_le _, rfl, h0, Keeps.refl _ _⟩
  case round =>
    obtain ⟨k, ow, hk, rfl, hJ, hK⟩ := hrel
    obtain ⟨wo, rfl⟩ : ∃ wo : World, wo = wr := ⟨_, rfl⟩
    have e0 : (0 : Int) ≤ (k : Int) := by omega
    by_cases hlt : k < m
    · have e1 : (k : Int) < (m : Int) := by omega
      have hEk := HE.out ow _ wo hJ
      have hC0 := HOR.out.2.2.2.2.2.2.2
      obtain ⟨x, hx⟩ : ∃ x, C.sl[k]? = some x := ⟨_, List.getElem?_eq_getElem (by have := HOR.out.2.1; omega)⟩
      obtain ⟨p, hp⟩ : ∃ p, R[k]? = some p := ⟨_, List.getElem?_eq_getElem (by have := HOR.out.2.2.1; omega)⟩
      obtain ⟨u, uc, hs⟩ := hC0.slab k p x hp hx
      obtain ⟨g, rfl⟩ := HA.out (by omega)
      have r0 : wo.cell? ⟨g, k, none⟩ = some (.pointer (some ⟨p, 0, none⟩)) := (World.cell?_of_block (a := ⟨g, k, none⟩) (hEk g (by rw [hC0.ownG g rfl]; simp))).trans (Sl.row_cell hC0.row (i := k) (v := .pointer (some ⟨p, 0, none⟩)) (by unfold Sl.ptrs; rw [List.getElem?_map, hp]; rfl))
      obtain ⟨_, p1, _, _⟩ := Sl.three_cells ((hEk p (by rw [hs.ownP]; simp)).trans hs.cell)
      have hxl := HOR.out.2.2.2.1 x (List.mem_of_getElem? hx)
      have hxp := HOR.out.2.2.2.2.1 x (List.mem_of_getElem? hx)
      have hkk : IntKind.i64.wrap ((k : Int) + 1) = ((k + 1 : Nat) : Int) := by rw [IntWalk.i64_in _ (by omega)]; rfl
      obtain ⟨q, hq⟩ : ∃ q, q = x.us.length := ⟨_, rfl⟩
      have huc : x.us.length ≤ uc := (Sl.row_caps hs.row).1
      rw [← hq] at p1 hxl huc
      have HJ := Lib.hid (And.intro hJ (And.intro hK (And.intro hx (And.intro hs hq))))
      clear hJ hK hx hp hq hEk hs hC0
      gi_wp2
      gi_loopw [21] (fun i wr => ∃ (t : Nat) (ow2 : Ow), t ≤ q ∧ i = .int .i64 (t : Int) ∧ J ow2 (objK C k ++ objP C.size x t) wr ∧ Keeps own0 ow2 W wr) (fun i _ => q - (intOf i).toNat)
      case atStart => exact ⟨0, ow, Nat.zero_le _, rfl, by simpa [objP] using HJ.out.1, HJ.out.2.1⟩
      case round =>
        obtain ⟨t, ow2, ht, rfl, hJ2, hK2⟩ := hrel
        have e2 : (0 : Int) ≤ (t : Int) := by omega
        by_cases hlt2 : t < q
        · have e3 : (t : Int) < (q : Int) := by omega
          have hc' : wr.cell? ⟨b1, 0, none⟩ = some (.pointer (some ⟨c, 0, none⟩)) := (World.cell?_of_block (a := ⟨b1, 0, none⟩) (hK2.block b1 hbs HOR.out.1)).trans hD
          have hE2 := HE.out ow2 _ wr hJ2
          have hs := HJ.out.2.2.2.1
          obtain ⟨v, hv⟩ : ∃ v, x.us[t]? = some v := ⟨_, List.getElem?_eq_getElem (by have := HJ.out.2.2.2.2; omega)⟩
          have u1 : wr.cell? ⟨u, t, none⟩ = some (.bool v) := (World.cell?_of_block (a := ⟨u, t, none⟩) (hE2 u (by rw [hs.ownU]; simp))).trans (Sl.row_cell hs.row (i := t) (v := .bool v) (by rw [Sl.bcells_get, hv]; rfl))
          have htt : IntKind.i64.wrap ((t : Int) + 1) = ((t + 1 : Nat) : Int) := by rw [IntWalk.i64_in _ (by omega)]; rfl
          cases v with
          | false =>
            have HJ2 := Lib.hid (And.intro hJ2 (And.intro hK2 (objP_no (size := C.size) hv)))
            clear hJ2 hK2 hv hE2 hs
            gi_wp2
            refine ⟨fun f h => (by cases h), ?_⟩
            gi_wp2
            go_roundw
            case rel => exact ⟨t + 1, ow2, by omega, by go_num, by rw [HJ2.out.2.2]; exact HJ2.out.1, HJ2.out.2.1⟩
            case measure => simp [intOf]; omega
          | true =>
            have hadr := Sl.address_ok wr c p C.size x.pg t (Sl.six_cells ((hE2 c (by rw [HOR.out.2.2.2.2.2.2.2.ownC]; simp)).trans HOR.out.2.2.2.2.2.2.2.cell)).2.1 (Sl.three_cells ((hE2 p (by rw [hs.ownP]; simp)).trans hs.cell)).1 hsz hxp (by omega)
            obtain ⟨ad, had⟩ : ∃ ad, ad = 64 * x.pg + t * C.size := ⟨_, rfl⟩
            rw [← had] at hadr
            have HAd := Lib.hid ((callsIn_wide (n := n - 1)).2 hadr)
            have hpl : (objK C k ++ objP C.size x t).length + 1 ≤ 131072 := by
              have h1 := HOR.out.2.2.2.2.2.1 k hk
              have h2 := objP_len C.size x t
              rw [List.length_append]
              omega
            have HJ2 := Lib.hid (And.intro hJ2 (And.intro hK2 (And.intro (objP_yes (size := C.size) hv) (And.intro hpl had))))
            clear hJ2 hK2 hv hE2 hs hadr hpl had
            gi_wp2_with (gi_at_call 43; fail)
            refine HAd.out.mono ?_
            rintro _ w2 ⟨rfl, dd, hw2⟩
            have hJ3 := HOR.out.2.2.2.2.2.2.1 ow2 _ wr w2 HJ2.out.1 (by rw [hw2]; exact Nat.le_refl _) (fun z _ _ => by rw [hw2]; rfl)
            have hf2 : Fresh ow2 w2 := hf.keeps (HJ2.out.2.1.trans (by rw [hw2]; exact ⟨rfl, rfl, rfl, Nat.le_refl _, fun _ _ _ => rfl, fun _ _ => rfl, fun _ h => .inl h⟩))
            obtain ⟨fn, tmps, assign, body, hy, hRd⟩ := HY.out ow2 _ ad w2 hJ3 hf2 HJ2.out.2.2.2.1
            have HR := Lib.hid hRd
            have HW := Lib.hid hw2
            clear hRd hJ3 hf2 hw2
            gi_wp2
            refine HR.out.mono ?_
            rintro e W3 ⟨own3, hK3, (⟨rfl, hJ3⟩ | ⟨rfl, hJ3⟩)⟩
            · have H3 := Lib.hid (And.intro hJ3 hK3)
              clear hJ3 hK3
              gi_wp2
              go_roundw
              case rel =>
                refine ⟨t + 1, own3, by omega, by go_num, ?_, ?_⟩
                · rw [HJ2.out.2.2.1, ← List.append_assoc, show addrS C.size x t = ad from HJ2.out.2.2.2.2.symm]; exact H3.out.1
                · exact (HJ2.out.2.1.trans (by rw [HW.out]; exact ⟨rfl, rfl, rfl, Nat.le_refl _, fun _ _ _ => rfl, fun _ _ => rfl, fun _ h => .inl h⟩)).trans H3.out.2
              case measure => simp [intOf]; omega
            · have H3 := Lib.hid (And.intro hJ3 hK3)
              clear hJ3 hK3
              gi_wp2
              refine bodyPost_ret (results_none rfl _ _ _) rfl ?_
              exact ⟨⟨_, rfl⟩, own3, (HJ2.out.2.1.trans (by rw [HW.out]; exact ⟨rfl, rfl, rfl, Nat.le_refl _, fun _ _ _ => rfl, fun _ _ => rfl, fun _ h => .inl h⟩)).trans H3.out.2, .inr ⟨_, trivial, H3.out.1⟩⟩
        · obtain rfl : t = q := by omega
          have e3 : ¬ ((t : Nat) : Int) < (t : Int) := by omega
          have HJ2 := Lib.hid (And.intro hJ2 hK2)
          clear hJ2 hK2
          gi_wp2
          go_roundw
          case rel => exact ⟨k + 1, ow2, by omega, by go_num, by rw [objK_succ HJ.out.2.2.1, ← HJ.out.2.2.2.2]; exact HJ2.out.1, HJ2.out.2⟩
          case measure => simp [intOf]; omega
    · obtain rfl : k = m := by omega
      have e1 : ¬ ((k : Nat) : Int) < (k : Int) := by omega
      have HJ := Lib.hid (And.intro hJ hK)
      clear hJ hK
      gi_wp2
      go_end0
      refine ⟨⟨_, rfl⟩, ow, HJ.out.2, .inl ?_⟩
      rw [← objK_all, ← HOR.out.2.1]
      exact HJ.out.1
end Bu
end Go.Proofs.Ytlknhbcambdccaa
namespace Go.Proofs
open Go.Shelf
def Try.delSlab_ren : Go.Shelf.Ren := ⟨fun | 45 => 72 | n => n, fun | 22 => 76 | 23 => 97 | 3 => 3 | 4 => 4 | 0 => 0 | n => n, fun | n => n⟩
theorem Try.delSlab : Go.Proofs.SlLaysE.n45 Try.prog Try.delSlab_ren := {
  mixed := by kernel_rfl
  f45 := ⟨Try.f72.name, by decide, Try.func72.trans (congrArg some (by kernel_rfl))⟩
  t0 := Try.underlying0
  a0 := Try.isAgg0
  z0 := Try.sizeOf0
  v0 := Try.zeroValue0
  t3 := Try.underlying3
  a3 := Try.isAgg3
  z3 := Try.sizeOf3
  v3 := Try.zeroValue3
  t4 := Try.underlying4
  a4 := Try.isAgg4
  z4 := Try.sizeOf4
  v4 := Try.zeroValue4
  t22 := Try.underlying76
  a22 := Try.isAgg76
  z22 := Try.sizeOf76
  v22 := Try.zeroValue76
  a23 := Try.isAgg97
  z23 := Try.sizeOf97 }
def Try.cloneB_ren : Go.Shelf.Ren := ⟨fun | 41 => 60 | n => n, fun | 22 => 88 | 23 => 4 | 4 => 4 | n => n, fun | n => n⟩
theorem Try.cloneB : Go.Proofs.SlLaysE0.n41 Try.prog Try.cloneB_ren := {
  mixed := by kernel_rfl
  f41 := ⟨Try.f60.name, by decide, Try.func60.trans (congrArg some (by kernel_rfl))⟩
  t4 := Try.underlying4
  a4 := Try.isAgg4
  z4 := Try.sizeOf4
  v4 := Try.zeroValue4
  t22 := Try.underlying88
  a22 := Try.isAgg88
  z22 := Try.sizeOf88
  v22 := Try.zeroValue88 }
end Go.Proofs
namespace Go.Proofs.Ytlknhbcambdccaa
open Go.RowKit
namespace Sl
open Bu

def encP (o : Option Nat) : Value := .pointer (o.map fun p => ⟨p, 0, none⟩)
theorem encP_one : OneCell encP := fun _ => rfl
theorem ptrs_enc (R : List Nat) : ptrs R = (R.map some).map encP := by unfold ptrs; rw [List.map_map]; rfl

set_option maxRecDepth 100000 in
theorem delete_ok (w : World) (g cap k : Nat) (R : List Nat) (hr : w.ownsRow 0 97 1 (.slice (some ⟨g, 0, none⟩) R.length cap) R.length (ptrs R)) (hk : k < R.length) :
    Calls Try.prog 72 #[.slice (some ⟨g, 0, none⟩) R.length cap, .int .i64 (k : Int), .int .i64 ((k + 1 : Nat) : Int)] w fun e w' =>
      e = .returned (.slice (some ⟨g, 0, none⟩) (R.eraseIdx k).length cap) ∧ w'.ownsRow 0 97 1 (.slice (some ⟨g, 0, none⟩) (R.eraseIdx k).length cap) (R.eraseIdx k).length (ptrs (R.eraseIdx k)) ∧ OnlyB (some g) w w' := by
  obtain ⟨cur, hg, hs, hx, hn, hc⟩ := row_form hr
  obtain ⟨i0, hi0, hz1⟩ : ∃ i0, Try.prog.info? 97 = some i0 ∧ i0.size = 1 := by
    have := ptr_size
    cases e : Try.prog.info? 97 with
    | none => rw [e] at this; cases this
    | some i0 => rw [e] at this; injection this with this; exact ⟨i0, rfl, this⟩
  have hds : (R.map some).toArray.size = R.length := by simp
  have hH : Go.Sort.Holds encP w g 0 (R.map some).toArray := by
    intro j hj
    rw [hds] at hj
    refine ⟨?_, by simp [World.frozen?, hg]⟩
    rw [cell_of_row w g _ cur _ _ hg, Nat.zero_add]
    have h1 : (ptrs R)[j]? = some (encP (R.map some).toArray[j]!) := by
      rw [ptrs_enc, List.getElem?_map, getElem!_pos _ j (by simpa using hj)]
      simp [hj]
    rw [← hx, List.getElem?_take_of_lt hj, Array.getElem?_toList] at h1
    exact h1
  have hD := AnyE.slices_Delete Try.delSlab encP encP_one none Try.zeroValue97 i0 hi0 hz1 g 0 cap k (k + 1) (R.map some).toArray w hH (by rw [hds]; exact hn) hc (by omega) (by rw [hds]; omega)
  rw [hds] at hD
  have hel : (R.eraseIdx k).length = R.length - 1 := List.length_eraseIdx_of_lt hk
  refine Calls.mono hD ?_
  rintro e w' ⟨he, q, rfl⟩
  obtain ⟨D, hDe⟩ : ∃ D, D = ((R.map some).toArray.toList.take k ++ (R.map some).toArray.toList.drop (k + 1) ++ List.replicate (k + 1 - k) none).toArray := ⟨_, rfl⟩
  rw [← hDe]
  have hDs : D.size = R.length := by rw [hDe]; simp; omega
  have hhp : ∀ z : Nat, (Go.Sort.putRow encP (Go.Sort.ahead w q) g 0 D).heap[z]? = if g = z then (w.heap[z]?).map (Go.Sort.onCells (Go.Sort.putCells encP 0 D)) else w.heap[z]? := fun z => by
    show (w.heap.modify g (Go.Sort.onCells (Go.Sort.putCells encP 0 D)))[z]? = _
    rw [Array.getElem?_modify]
  have hnew : (Go.Sort.putRow encP (Go.Sort.ahead w q) g 0 D).heap[g]? = some (.cells (Go.Sort.putCells encP 0 D cur) 97 (0, 0)) := by
    rw [hhp, if_pos rfl, hg]; rfl
  refine ⟨by rw [he, hel, show R.length - (k + 1 - k) = R.length - 1 by omega], ?_, ⟨rfl, rfl, rfl, ?_, fun z hz => ?_⟩⟩
  · refine row_make hnew (by rw [← hs]; simp [Go.Sort.putCells]) ?_ (by omega) hc (Nat.zero_le _)
    have hpe : ptrs (R.eraseIdx k) = (ptrs R).take k ++ (ptrs R).drop (k + 1) := by
      unfold ptrs
      rw [List.eraseIdx_eq_take_drop_succ, List.map_append, List.map_take, List.map_drop]
    rw [hel]
    apply List.ext_getElem?
    intro t
    rw [List.getElem?_take]
    by_cases ht : t < R.length - 1
    · rw [if_pos ht, Array.getElem?_toList]
      have hts : t < cur.size := by omega
      have hDl : D.toList = (R.eraseIdx k).map some ++ [none] := by
        rw [hDe, List.eraseIdx_eq_take_drop_succ, List.map_append, List.map_take, List.map_drop, show k + 1 - k = 1 by omega]
        rfl
      have hDt : D.toList[t]? = ((R.eraseIdx k)[t]?).map some := by
        rw [hDl, List.getElem?_append_left (by simp [hel]; omega), List.getElem?_map]
      rw [Array.getElem?_toList, Array.getElem?_eq_getElem (by omega)] at hDt
      unfold ptrs
      rw [List.getElem?_map]
      obtain ⟨y, hy⟩ : ∃ y, (R.eraseIdx k)[t]? = some y := ⟨_, List.getElem?_eq_getElem (by omega)⟩
      rw [hy] at hDt ⊢
      injection hDt with hDt
      have h2 : (Go.Sort.putCells encP 0 D cur)[t]? = some (encP D[t]!) := by
        simp [Go.Sort.putCells, hts, hDs, show t < R.length by omega]
      rw [h2, getElem!_pos D t (by omega), hDt]
      rfl
    · rw [if_neg ht]
      symm
      apply List.getElem?_eq_none
      rw [ptrs_len, hel]; omega
  · show (w.heap.modify g _).size = _
    simp
  · rw [hhp, if_neg (fun e => hz (by rw [e]))]
end Sl
end Go.Proofs.Ytlknhbcambdccaa
namespace Go.Proofs.Ytlknhbcambdccaa
open Go.RowKit
namespace Sl
open Bu

theorem cache_del {w w' : World} {own : Own?} {c b k : Nat} {C : Ca} {e e' : Nat} {A : Option Addr} {cap : Nat} {R : List Nat} (h : CacheAt w own c b C e A cap R)
    (hc' : w'.heap[c]? = some (.cells #[.pointer (some ⟨b, 0, none⟩), .int .i64 (C.size : Int), .int .i64 (C.order : Int), .int .i64 (C.keep : Int), .slice A (R.eraseIdx k).length cap, .int .i64 (e' : Int)] 78 (0, 0)))
    (hr' : w'.ownsRow 0 97 1 (.slice A (R.eraseIdx k).length cap) (R.eraseIdx k).length (ptrs (R.eraseIdx k)))
    (hk : ∀ z, own z ≠ none → z ≠ c → z ≠ b → A.map (·.block) ≠ some z → z < w.heap.size → w'.heap[z]? = w.heap[z]?) : CacheAt w' own c b { C with sl := C.sl.eraseIdx k } e' A cap (R.eraseIdx k) := by
  refine ⟨h.ownC, h.ownB, hc', hr', h.ownG, ?_, (List.eraseIdx_sublist R k).nodup h.nd, fun i p x hp hx => ?_⟩
  · show _ = (C.sl.eraseIdx k).length
    rw [List.length_eraseIdx, List.length_eraseIdx, h.len]
  · have hx : (C.sl.eraseIdx k)[i]? = some x := hx
    rw [List.getElem?_eraseIdx] at hp hx
    have old : ∀ j : Nat, R[j]? = some p → C.sl[j]? = some x → ∃ u ucap, SlabAt w' own p u x.many ucap x := by
      intro j hj hy
      obtain ⟨u, uc, hs⟩ := h.slab j p x hj hy
      refine ⟨u, uc, hs.same fun z hz hl => ⟨?_, rfl⟩⟩
      rcases hz with rfl | rfl
      · refine hk _ (by rw [hs.ownP]; simp) (fun e2 => ?_) (fun e2 => ?_) (fun e2 => ?_) hl
        · have := hs.ownP; rw [e2, h.ownC] at this; cases this
        · have := hs.ownP; rw [e2, h.ownB] at this; cases this
        · have := h.ownG _ e2; rw [hs.ownP] at this; cases this
      · refine hk _ (by rw [hs.ownU]; simp) (fun e2 => ?_) (fun e2 => ?_) (fun e2 => ?_) hl
        · have := hs.ownU; rw [e2, h.ownC] at this; injection this with this; omega
        · have := hs.ownU; rw [e2, h.ownB] at this; injection this with this; omega
        · have := h.ownG _ e2; rw [hs.ownU] at this; injection this with this; omega
    split at hp
    · next hlt => rw [if_pos hlt] at hx; exact old i hp hx
    · next hlt => rw [if_neg hlt] at hx; exact old (i + 1) hp hx

/-- What give leaves. -/
def GiveR' (own : Own?) (c b k : Nat) (C : Ca) (e' : Nat) (A : Option Addr) (cap : Nat) (R : List Nat) (N : Nat) (L : List Blk) (pg : Nat) (w : World) (e0 : Ending) (w' : World) : Prop :=
  e0 = .returned (.tuple #[]) ∧ CacheAt w' own c b { C with sl := C.sl.eraseIdx k } e' A cap (R.eraseIdx k) ∧ BuL w' b N (delB L (pg, C.order)) ∧ Keeps own own w w'

set_option maxRecDepth 100000 in
set_option maxHeartbeats 8000000 in
theorem give_ok (w : World) (own : Own?) (c b k : Nat) (C : Ca) (e' : Nat) (A : Option Addr) (cap : Nat) (R : List Nat) (N : Nat) (L : List Blk) (x : Slb) (hC : CacheAt w own c b C (e' + 1) A cap R) (hB : BuL w b N L) (hx : C.sl[k]? = some x) (hgiv : (x.pg, C.order) ∈ L) (he : e' ≤ 1024) :
    Calls Try.prog 37 #[.pointer (some ⟨c, 0, none⟩), .int .i64 (k : Int)] w fun e w' => GiveR' own c b k C e' A cap R N L x.pg w e w' := by
  have hkl : k < C.sl.length := (List.getElem?_eq_some_iff.1 hx).1
  have hkR : k < R.length := by rw [hC.len]; exact hkl
  obtain ⟨p, hp⟩ : ∃ p, R[k]? = some p := ⟨_, List.getElem?_eq_getElem hkR⟩
  obtain ⟨u, uc, hs⟩ := hC.slab k p x hp hx
  obtain ⟨g, hA⟩ : ∃ g, A = some ⟨g, 0, none⟩ := by
    rcases hC.row.2 with ⟨_, h0⟩ | ⟨g, cp, cur, hv, _⟩
    · omega
    · injection hv with hv; exact ⟨g, hv⟩
  subst hA
  have hcb : c ≠ b := fun e => by have := hC.ownC; rw [e, hC.ownB] at this; cases this
  have hgo := hC.ownG g rfl
  have hgb : g ≠ b := fun e => by rw [e, hC.ownB] at hgo; cases hgo
  have hgc : g ≠ c := fun e => by rw [e, hC.ownC] at hgo; cases hgo
  have hfree : Calls Try.prog 71 #[.pointer (some ⟨b, 0, none⟩), .int .i64 (x.pg : Int), .int .i64 (C.order : Int)] (World.drew w) fun e w' => e = .returned (.int .i64 0) ∧ BuL w' b N (delB L (x.pg, C.order)) ∧ Grow1 b w w' := by
    refine (freeL_ok (World.drew w) b N L (x.pg, C.order) (hB.keep rfl) (hB.2.inb _ hgiv)).mono ?_
    rintro e w' ⟨hG, ⟨_, h1, h2⟩ | ⟨h1, _⟩⟩
    · exact ⟨h1, h2, hG.os, hG.tape, hG.output, hG.size, hG.block⟩
    · exact absurd hgiv h1
  obtain ⟨hcap1, hcap2, _⟩ := row_caps hC.row
  unfold maxLen at hcap2
  obtain ⟨n, hn⟩ : ∃ n, n = R.length := ⟨_, rfl⟩
  obtain ⟨c0, c1, c2, c3, c4, c5, _, _⟩ := six_cells hC.cell
  have p0 := (three_cells hs.cell).1
  have r0 := row_cell hC.row (i := k) (v := .pointer (some ⟨p, 0, none⟩)) (by unfold ptrs; rw [List.getElem?_map, hp]; rfl)
  have e0 : (0 : Int) ≤ (k : Int) := by omega
  have e1 : (k : Int) < (n : Int) := by omega
  have hkk : IntKind.i64.wrap ((k : Int) + 1) = ((k + 1 : Nat) : Int) := by rw [IntWalk.i64_in _ (by omega)]; rfl
  have hee : IntKind.i64.wrap (((e' + 1 : Nat) : Int) - 1) = (e' : Int) := by rw [IntWalk.i64_in _ (by omega)]; omega
  have HF := Lib.hid hfree
  rw [← hn] at c4
  have hcapn : n ≤ cap := by omega
  have HX := Lib.hid (And.intro hC (And.intro hn (And.intro hkR (And.intro hcb (And.intro hgb hgc)))))
  clear hfree hC hB hx hgiv hs hp hn hkR hkl hcap1 hgo
  go_enter Try.func37, Try.ntmps37
  go_upto_region 0 with (fail)
  go_cut [22] from 4 to 23 (fun _ wx => BuL wx b N (delB L (x.pg, C.order)) ∧ Grow1 b w wx)
  case first =>
    go_region_with (go_at_call 71; refine HF.out.mono ?_; rintro e w5 ⟨rfl, hB5, hg5⟩; have H5 := Lib.hid (And.intro hB5 hg5); clear hB5 hg5)
    all_goals
      go_wp2_with (fail)
      go_meet
      exact ⟨H5.out.1, H5.out.2.os, H5.out.2.tape, H5.out.2.output, H5.out.2.size, H5.out.2.block⟩
  case rest =>
    obtain ⟨hBc, hGc⟩ := hcut
    obtain ⟨hC, hn, hkR, hcb, hgb, hgc⟩ := HX.out
    have nC := heap_grow hGc hcb hC.cell
    have hgl : g < w.heap.size := (hC.row.lt g rfl).2
    have nR : wc.ownsRow 0 97 1 (.slice (some ⟨g, 0, none⟩) R.length cap) R.length (ptrs R) := row_same hC.row fun z hz => by
      have hz : g = z := by injection hz
      rw [← hz]
      exact hGc.block g hgl hgb
    have hdel := delete_ok wc g cap k R nR hkR
    obtain ⟨m, hm⟩ : ∃ m, m = (R.eraseIdx k).length := ⟨_, rfl⟩
    rw [← hm, ← hn] at hdel
    rw [← hn] at nC
    have HDl := Lib.hid hdel
    have HM := Lib.hid (And.intro nC (And.intro nR (And.intro hm (And.intro hgl (And.intro hBc hGc)))))
    obtain ⟨k0, k1, k2, k3, k4, k5, _, _⟩ := six_cells nC
    clear hdel nR hm hBc hGc nC hC hn hkR hcb hgb hgc c0 c1 c2 c3 c4 c5 p0 r0 hgl
    go_wp2_with (go_at_call 72; fail)
    refine HDl.out.mono ?_
    rintro e w6 ⟨rfl, hr6, ho6⟩
    have hcg : c ≠ g := fun e => HX.out.2.2.2.2.2 e.symm
    have nC6 := (ho6.block c (fun e => hcg (by injection e with e; exact e.symm))).trans HM.out.1
    obtain ⟨j0, j1, j2, j3, j4, j5, f4, f5⟩ := six_cells nC6
    have H6 := Lib.hid (And.intro hr6 (And.intro ho6 nC6))
    clear hr6 ho6 nC6 k0 k1 k2 k3 k4 k5
    go_wp2_with (fail)
    go_end0
    obtain ⟨hr6, ho6, nC6⟩ := H6.out
    obtain ⟨nC, nR, hm, hgl, hBc, hGc⟩ := HM.out
    obtain ⟨hC, hn, hkR, hcb, hgb, hgc⟩ := HX.out
    subst hm
    have hfar : ∀ z, z ≠ c → z ≠ g → ((w6.setCell ⟨c, 4, none⟩ (.slice (some ⟨g, 0, none⟩) (R.eraseIdx k).length cap)).setCell ⟨c, 5, none⟩ (.int .i64 (e' : Int))).heap[z]? = wc.heap[z]? := fun z h1 h2 => (setCell_far _ _ _ _ h1).trans ((setCell_far _ _ _ _ h1).trans (ho6.block z (fun e => h2 (by injection e with e; exact e.symm))))
    have hsz : ((w6.setCell ⟨c, 4, none⟩ (.slice (some ⟨g, 0, none⟩) (R.eraseIdx k).length cap)).setCell ⟨c, 5, none⟩ (.int .i64 (e' : Int))).heap.size = wc.heap.size := by rw [setCell_size, setCell_size]; exact ho6.size
    refine ⟨rfl, cache_del hC ?_ ?_ ?_, hBc.keep (hfar b hcb.symm hgb.symm), ⟨?_, ?_, ?_, ?_, ?_, fun _ _ => rfl, fun _ h => .inl h⟩⟩
    · exact setCell_at (w6.setCell ⟨c, 4, none⟩ (.slice (some ⟨g, 0, none⟩) (R.eraseIdx k).length cap)) c 5 _ _ _ (setCell_at w6 c 4 _ _ _ nC6)
    · exact row_same hr6 fun z hz => by
        have hz : g = z := by injection hz
        rw [← hz]
        exact (setCell_far _ _ _ _ hgc).trans (setCell_far _ _ _ _ hgc)
    · exact fun z _ h1 h2 h3 hl => (hfar z h1 (fun e => h3 (by rw [e]; rfl))).trans (hGc.block z hl h2)
    · exact ho6.os.trans hGc.os
    · exact ho6.tape.trans hGc.tape
    · exact ho6.output.trans hGc.output
    · rw [hsz]; exact hGc.size
    · intro z hl ho
      exact (hfar z (fun e => by rw [e, hC.ownC] at ho; cases ho) (fun e => by rw [e, hC.ownG g rfl] at ho; cases ho)).trans (hGc.block z hl (fun e => by rw [e, hC.ownB] at ho; cases ho))
end Sl
end Go.Proofs.Ytlknhbcambdccaa
