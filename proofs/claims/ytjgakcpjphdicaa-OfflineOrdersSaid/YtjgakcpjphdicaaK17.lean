/- Valid sorts the indices by their addresses. OnesCount64 up to 4096. -/
import Derived.Test.YtjgakcpjphdicaaK16
import Derived.Test.YtjgakcpjphdicaaK1
namespace Go.Proofs.Ytjgakcpjphdicaa
open Go.Shelf Go.RowKit Go.Lib Go.Sort
namespace Of

theorem sw_row {α : Type} [Inhabited α] {enc : α → Value} {w : World} {blk n T : Nat} {dk : Array α} {os : Array Obj} {cs : Array Value} (hg : w.heap[blk]? = some (.cells cs T (0, 0))) :
    (sortWorld enc w blk 0 n dk os).heap[blk]? = some (.cells (putCells enc 0 dk cs) T (0, 0)) := by
  have hlt := lt_of_heap hg
  unfold sortWorld
  have h1 : (putRow enc (Sort.ahead w n) blk 0 dk).heap[blk]? = some (.cells (putCells enc 0 dk cs) T (0, 0)) := by
    unfold putRow mapBlock
    rw [Array.getElem?_modify, if_pos rfl]
    show Option.map _ w.heap[blk]? = _
    rw [hg]; rfl
  rw [heap_grow_old _ _ (lt_of_heap h1)]
  exact h1

theorem Array.extract_size_of_eq {α : Type} {d : Array α} {n : Nat} (h : d.size = n) : (d.extract 0 n).toList = d.toList := by
  subst h; simp
/-- What the sort leaves. -/
def SortedBy (w : World) (gr n : Nat) (M : List Int) (w' : World) : Prop := ∃ o : List Nat, o.Perm (List.range n) ∧ Asc M o ∧ RowI 3 w' gr (zs o) ∧ Grow1 gr w w'

set_option maxHeartbeats 1000000 in
theorem vsort_ok (w : World) (bp gr n c : Nat) (A : Option Addr) (M : List Int) (hp : w.cell? ⟨bp, 0, none⟩ = some (.slice A M.length c)) (hM : IAt w A c M) (hr : RowI 3 w gr (zs (List.range n))) (hn : n = M.length) (hn2 : n ≤ 100000)
    (h1 : bp ≠ gr) (h2 : 0 < n → ∀ g, A.map (·.block) = some g → g ≠ gr) :
    Calls Try.prog 41 #[.slice (some ⟨gr, 0, none⟩) n n, .func (.func 42) #[] #[.pointer (some ⟨bp, 0, none⟩)]] w fun e w' => e = .returned (.tuple #[]) ∧ SortedBy w gr n M w' := by
  rcases Nat.eq_zero_or_pos n with h0 | hpos
  · subst h0
    refine (AnyF.slices_SortFunc_none { Try.sortI with } (some ⟨gr, 0, none⟩) 0 _ w).mono ?_
    rintro e w' ⟨rfl, rfl⟩
    exact ⟨rfl, [], List.Perm.refl _, List.Pairwise.nil, hr, Grow1.refl _ _⟩
  · obtain ⟨m, rfl⟩ : ∃ m, n = m + 1 := ⟨n - 1, by omega⟩
    obtain ⟨g, o, rfl, hg⟩ := hM.head (by omega)
    obtain ⟨cs, hcs, hcl⟩ := id hr
    have hcsz : cs.size = m + 1 := by rw [← Array.length_toList, hcl, ci_len]; simp
    have hin : ∀ k, k ∈ List.range (m + 1) → k < m + 1 := fun k hk => List.mem_range.1 hk
    have hdz : (fins m (List.range (m + 1))).size = m + 1 := by simp [fins]
    have hH : Holds (fun x : Fin (m + 1) => Value.int .i64 (x.val : Int)) w gr 0 (fins m (List.range (m + 1))) := by
      intro j hj
      rw [hdz] at hj
      refine ⟨?_, by simp [World.frozen?, hcs]⟩
      show _ = some (Value.int .i64 (((fins m (List.range (m + 1)))[j]!).val : Int))
      rw [fins_get hin (by simpa using hj), Nat.zero_add, hr.cell (by simpa using hj)]
      simp [hj]
    have eg : ∀ args w, (callFunc 42 args).run Try.prog w = .ok (.enter 42 args) w := enters_of Try.func42 (by kernel_rfl) rfl
    have hcm : CmpLays1 Try.prog 42 #[.pointer (some ⟨bp, 0, none⟩)] (fun x : Fin (m + 1) => Value.int .i64 (x.val : Int)) (fun x y => cmpV (addr M x.val) (addr M y.val)) gr 0 (fins m (List.range (m + 1))).size w := by
      intro q os dk hdk x y
      have k1 := sw_other (fun x : Fin (m + 1) => Value.int .i64 (x.val : Int)) w gr 0 q dk os (k := bp) h1 (World.block_lt_of_cell? w (a := ⟨bp, 0, none⟩) hp)
      have k2 := sw_other (fun x : Fin (m + 1) => Value.int .i64 (x.val : Int)) w gr 0 q dk os (k := g) (h2 (by omega) g rfl) hg
      have hM' : IAt (sortWorld (fun x : Fin (m + 1) => Value.int .i64 (x.val : Int)) w gr 0 q dk os) (some ⟨g, o, none⟩) c M := by
        refine ⟨hM.1, hM.2.1, fun j z hz => ?_⟩
        obtain ⟨g', o', e1, e2, e3⟩ := hM.2.2 j z hz
        injection e1 with e1; injection e1 with e1 e4
        subst e1; subst e4
        exact ⟨g, o, rfl, Nat.lt_of_lt_of_le e2 (SW.le ⟨q, os, rfl⟩), (World.cell?_of_block (a := ⟨g, _, none⟩) k2).trans e3⟩
      refine (vcmp_ok _ bp g o c M ((World.cell?_of_block (a := ⟨bp, 0, none⟩) k1).trans hp) hM' x.val y.val (by have := x.isLt; omega) (by have := y.isLt; omega)).mono ?_
      rintro e w' ⟨rfl, q', rfl⟩
      exact ⟨rfl, q', #[], by rw [grow_empty]⟩
    have hs := Any.slices_SortFunc Try.sortI (fun x : Fin (m + 1) => Value.int .i64 (x.val : Int)) (fun _ => rfl) (fun x y => cmpV (addr M x.val) (addr M y.val)) (swoV fun x => addr M x.val) 42 #[.pointer (some ⟨bp, 0, none⟩)] gr 0 (m + 1) (fins m (List.range (m + 1))) w eg hcm hH (lt_of_heap hcs) (by omega)
    rw [hdz] at hs
    refine hs.mono ?_
    rintro e w' ⟨rfl, d', q, os, hperm, hsrt, rfl⟩
    have hd' : d'.size = m + 1 := by have := hperm.1; omega
    refine ⟨rfl, d'.toList.map (·.val), ?_, ?_, ?_, ?_⟩
    · have hp2 := hperm.2.2
      rw [Array.extract_size_of_eq hd', Array.extract_size_of_eq hdz] at hp2
      have := hp2.map (fun x : Fin (m + 1) => x.val)
      refine this.trans (List.Perm.of_eq ?_)
      unfold fins
      rw [List.toList_toArray, List.map_map]
      refine (List.map_congr_left fun x hx => ?_).trans (List.map_id _)
      have := hin x hx
      simp [Nat.mod_eq_of_lt this]
    · unfold Asc
      rw [List.pairwise_map, List.pairwise_iff_getElem]
      intro i j hi hj hij
      have := hsrt i j (Nat.zero_le _) hij (by rw [Array.length_toList, hd'] at hj; exact hj)
      unfold ltOf at this
      simp only [decide_eq_false_iff_not, cmpV_lt] at this
      rw [Array.length_toList] at hi hj
      rw [getElem!_pos d' i hi, getElem!_pos d' j hj] at this
      simp only [Array.getElem_toList]
      omega
    · refine ⟨_, sw_row hcs, ?_⟩
      apply List.ext_getElem
      · simp [putCells, ci, hcsz, hd']
      · intro i h3 h4
        have hi : i < m + 1 := by simpa [ci, hd'] using h4
        simp [putCells, ci, hd', hi]
    · obtain hsw : SW (fun x : Fin (m + 1) => Value.int .i64 (x.val : Int)) w gr 0 d' (sortWorld (fun x : Fin (m + 1) => Value.int .i64 (x.val : Int)) w gr 0 q d' os) := ⟨q, os, rfl⟩
      exact ⟨rfl, rfl, rfl, hsw.le, fun k hk hne => sw_other _ _ _ _ _ _ _ hne hk⟩
end Of
end Go.Proofs.Ytjgakcpjphdicaa
namespace Go.Proofs.Ytjgakcpjphdicaa
open Go.RowKit
namespace Of
def oc (x : Int) : Int :=
  let a := IntKind.u64.wrap (bits .and .u64 (x / 2) 6148914691236517205 + bits .and .u64 x 6148914691236517205)
  let b := IntKind.u64.wrap (bits .and .u64 (a / 4) 3689348814741910323 + bits .and .u64 a 3689348814741910323)
  let c := bits .and .u64 (IntKind.u64.wrap (b / 16 + b)) 1085102592571150095
  let d := IntKind.u64.wrap (c + c / 256)
  let e := IntKind.u64.wrap (d + d / 65536)
  let f := IntKind.u64.wrap (e + e / 4294967296)
  bits .and .i64 (wrap64 f) 127
theorem oc_all : ((List.range 4097).all fun n => (oc (n : Int) == 1) == isPow (n : Int)) = true := by decide +kernel
theorem oc_ok (n : Nat) (hn : n ≤ 4096) : (oc (n : Int) == 1) = isPow (n : Int) := by
  have h := oc_all
  rw [List.all_eq_true] at h
  have := h n (List.mem_range.2 (by omega))
  simpa using this

set_option maxHeartbeats 1000000 in
theorem ones_ok (n : Nat) (hn : n ≤ 4096) (w : World) : Calls Try.prog 54 #[.int .u64 (n : Int)] w fun e w' => e = .returned (.int .i64 (oc (n : Int))) ∧ w = w' := by
  have h0 : (0 : Int) ≤ (n : Int) := by omega
  have h1 : (n : Int) ≤ 4096 := by omega
  go_enter Try.func54, Try.ntmps54
  go_wp2
  go_ret
  refine ⟨?_, rfl⟩
  have ho : ∃ r, r = oc (n : Int) := ⟨_, rfl⟩
  obtain ⟨r, hr⟩ := ho
  rw [← hr]
  unfold oc at hr
  dsimp only at hr
  generalize IntKind.u64.wrap (bits .and .u64 ((n : Int) / 2) 6148914691236517205 + bits .and .u64 (n : Int) 6148914691236517205) = a at *
  generalize IntKind.u64.wrap (bits .and .u64 (a / 4) 3689348814741910323 + bits .and .u64 a 3689348814741910323) = b at *
  generalize  bits .and .u64 (IntKind.u64.wrap (b / 16 + b)) 1085102592571150095 = c at *
  generalize IntKind.u64.wrap (c + c / 256) = d at *
  generalize IntKind.u64.wrap (d + d / 65536) = e at *
  generalize IntKind.u64.wrap (e + e / 4294967296) = f at *
  rw [hr]
  rfl
end Of
end Go.Proofs.Ytjgakcpjphdicaa
