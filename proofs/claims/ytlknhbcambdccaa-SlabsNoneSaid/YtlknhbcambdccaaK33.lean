/- A slice of blocks appended to a slice of the call's own, in a region that draws its order; blocks that are freed one by one. -/
import Derived.Test.YtlknhbcambdccaaK19
import Derived.Test.YtlknhbcambdccaaK32
import Derived.Deep.RegionLaw
import Derived.Deep.Slices
import Derived.ChangeSlices
namespace Go.Proofs.Ytlknhbcambdccaa
open Go.RowKit
namespace Bu

set_option maxRecDepth 100000 in
theorem run_append_blk (w : World) (ty : TypeId) (base : Nat) (v : Value) (X : List Blk) (hown : w.ownsRow base 126 2 v X.length (cellsL X))
    (A : Option Addr) (c : Nat) (M : List Blk) (hM : BlkAt w A c M) (hn : A = none → c = 0) (hlen : X.length + M.length ≤ 100000) (hbase : base ≤ w.heap.size) :
    ∃ A' c' w', (Builtin.append_ #[44, 44] ty #[v, .slice A M.length c]).run Try.prog w = .ok (.slice A' (X ++ M).length c') w' ∧ Own w' base A' c' (X ++ M) ∧ w.grownBy w' v.ownBlock := by
  obtain ⟨i0, z0, hi0, hz0, hz1, hz2, hz3⟩ := info_open block_info
  have hcl : cellsL (X ++ M) = cellsL X ++ cellsL M := by simp [cellsL]
  cases A with
  | none =>
    obtain rfl := hn rfl
    have hM0 : M = [] := List.length_eq_zero_iff.1 (by have := hM.len.1; omega)
    subst hM0
    have hrun := run_append_owned_none (P := Try.prog) (w := w) base 44 ty 126 i0 2 Try.underlying44 hi0 v X.length (cellsL X) hown
    obtain ⟨A', c', rfl⟩ := own_value hown
    rw [List.append_nil]
    exact ⟨A', c', w, hrun, hown, grown_refl _ _⟩
  | some ad =>
    obtain ⟨v', w', hr, h2, h3, _⟩ := run_append_own (P := Try.prog) w base 44 ty 126 i0 z0 2 16 Try.underlying44 hi0 hz0 hz1 hz2 hz3 (by omega) v X.length (cellsL X) hown ad M.length c (cellsL M) (cellsL_len M) (blk_addr hM) (cellsL_one M) (by unfold maxLen; omega) (by omega) hbase
    rw [← List.length_append, ← hcl] at h2
    obtain ⟨A', c', rfl⟩ := own_value h2
    exact ⟨A', c', w', hr, h2, h3⟩

theorem step_append_blk {w : World} {ops : Array Oper} {o : Oper} {a : Act} {K : Act → World → Prop} {Q : Exit → Act → World → Prop} {E : Prop} (hgd : o.guard = none) (s x : Operand)
    (ho : o.op = .call { callee := .builtin .append, args := #[s, x], argTypes := #[44, 44] })
    (base : Nat) (v : Value) (X : List Blk) (hs : a.eval s = v) (hown : w.ownsRow base 126 2 v X.length (cellsL X))
    (A : Option Addr) (c : Nat) (M : List Blk) (hx : a.eval x = .slice A M.length c) (hM : BlkAt w A c M) (hn : A = none → c = 0) (hlen : X.length + M.length ≤ 100000) (hbase : base ≤ w.heap.size)
    (h : ∀ A' c' w', Own w' base A' c' (X ++ M) → w.grownBy w' v.ownBlock → K (a.put o.dst (.slice A' (X ++ M).length c')) w') :
    if Region.wanted o (yielded ops a.tmps) = true then Oper.wp Try.prog o a w K Q else E := by
  have hw : Region.wanted o (yielded ops a.tmps) = true := by simp [Region.wanted, hgd]
  rw [if_pos hw]
  obtain ⟨A', c', w', hrun, h1, h2⟩ := run_append_blk w o.type base v X hown A c M hM hn hlen hbase
  unfold Oper.wp
  simp only [execOp, ho, resolve, invoke, builtin, Sem.run_bind, Sem.run_pure, Result.andThen_ok, List.map_toArray, List.map_cons, List.map_nil, hs, hx, hrun]
  exact h A' c' w' h1 h2

/-- A part of a slice. -/
theorem blk_drop {w : World} {g o c k : Nat} {M : List Blk} (h : BlkAt w (some ⟨g, o, none⟩) c M) (hk : k ≤ M.length) : BlkAt w (some ⟨g, o + k * 2, none⟩) (c - k) (M.drop k) := by
  obtain ⟨h1, h2⟩ := h.len
  refine ⟨by simp; omega, by omega, fun j z hz => ?_⟩
  rw [List.getElem?_map, List.getElem?_drop, Option.map_eq_some_iff] at hz
  obtain ⟨x, hx, rfl⟩ := hz
  obtain ⟨g', o', hA, hg, d1, d2⟩ := h.at hx
  injection hA with hA; injection hA with e1 e2
  subst e1; subst e2
  have e : o + (k + j) * 2 = o + k * 2 + j * 2 := by omega
  rw [e] at d1 d2
  exact ⟨g, o + k * 2, rfl, hg, d1, d2⟩
theorem blk_take {w : World} {A : Option Addr} {c k : Nat} {M : List Blk} (h : BlkAt w A c M) : BlkAt w A c (M.take k) := by
  obtain ⟨h1, h2⟩ := h.len
  refine ⟨by simp; omega, by omega, fun j z hz => ?_⟩
  rw [List.getElem?_map, Option.map_eq_some_iff] at hz
  obtain ⟨x, hx, rfl⟩ := hz
  rw [List.getElem?_take] at hx
  split at hx
  · exact h.at hx
  · cases hx

theorem own_some {w : World} {B c : Nat} {A : Option Addr} {M : List Blk} (h : Own w B A c M) (hp : 0 < M.length) : ∃ g, A = some ⟨g, 0, none⟩ ∧ B ≤ g ∧ g < w.heap.size := by
  rcases h.2 with ⟨_, h0⟩ | ⟨g, cap, cur, hv, hB, hg, _⟩
  · omega
  · injection hv with h1 h2 h3
    exact ⟨g, h1, hB, lt_of_heap hg⟩

theorem own_low {w : World} {B B' c : Nat} {A : Option Addr} {M : List Blk} (h : Own w B A c M) (hB : B' ≤ B) : Own w B' A c M := by
  refine ⟨h.1, ?_⟩
  rcases h.2 with hn | ⟨g, cap, cur, hv, hb, r⟩
  · exact .inl hn
  · exact .inr ⟨g, cap, cur, hv, by omega, r⟩
theorem blk_lit1 (w : World) (a b : Nat) : BlkAt (w.alloc (.cells #[.int .i64 (a : Int), .int .i64 (b : Int)] 126)) (some ⟨w.heap.size, 0, none⟩) 1 [(a, b)] := by
  have h : (w.alloc (.cells #[.int .i64 (a : Int), .int .i64 (b : Int)] 126)).heap[w.heap.size]? = some (.cells #[.int .i64 (a : Int), .int .i64 (b : Int)] 126 (0, 0)) := by rw [heapAlloc, if_pos rfl]
  refine ⟨Nat.le_refl _, by unfold maxLen; omega, fun j x hx => ⟨w.heap.size, 0, rfl, by simp, ?_⟩⟩
  rw [cell_of_row _ _ _ _ _ _ h, cell_of_row _ _ _ _ _ _ h]
  match j, hx with
  | 0, hx => injection hx with hx; subst hx; exact ⟨rfl, rfl⟩
  | j + 1, hx => simp at hx

def lenOf : Value → Nat
  | .slice _ n _ => n
  | _ => 0

/-! Freed one by one. -/
theorem asc_nodup {L : List Blk} (h : L.Pairwise fun a b => a.1 + 2 ^ a.2 ≤ b.1) : L.Nodup :=
  h.imp fun {a b} hab e => by subst e; have := pow_pos2 a.2; omega
theorem filter_ne_self {x : Blk} : ∀ {L : List Blk}, x ∉ L → (L.filter fun y => y != x) = L := fun {L} h => List.filter_eq_self.2 fun y hy => by rw [bne_iff_ne]; intro e; exact h (e ▸ hy)
theorem delB_at {N : Nat} {M : List Blk} (hS : St N M) {k : Nat} {x : Blk} (hx : M[k]? = some x) : delB M x = M.take k ++ M.drop (k + 1) := by
  obtain ⟨hk, he⟩ := List.getElem?_eq_some_iff.1 hx
  have hnd := asc_nodup hS.asc
  have hM : M = M.take k ++ x :: M.drop (k + 1) := by
    have := List.take_append_drop k M
    rw [List.drop_eq_getElem_cons hk, he] at this
    exact this.symm
  have hnd2 : (M.take k ++ x :: M.drop (k + 1)).Nodup := by rw [← hM]; exact hnd
  rw [List.nodup_append] at hnd2
  obtain ⟨n1, n2, n3⟩ := hnd2
  rw [List.nodup_cons] at n2
  have h1 : x ∉ M.take k := fun h => n3 x h x (List.mem_cons_self ..) rfl
  unfold delB
  conv => lhs; rw [hM]
  rw [List.filter_append, List.filter_cons, filter_ne_self h1, filter_ne_self n2.1]
  simp
theorem blocks_none (N : Nat) (hN : N ≤ 10) : blocksB N [] = [(0, N)] := by
  have hS := st_nil hN
  refine asc_eq (asc_lt (blocks_asc hS)) (by simp) fun x => ?_
  have hfree : ∀ (k i : Nat), Free (LG []) k i := fun k i z _ ⟨j, hj⟩ => by unfold LG at hj; cases hj
  rw [mem_blocks hS, List.mem_singleton]
  constructor
  · rintro ⟨h1, h2, h3, h4, h5⟩
    obtain ⟨p, n⟩ := x
    dsimp only at h1 h2 h3 h4 h5
    have hn : n = N := h5.resolve_right fun h => h (hfree _ _)
    subst hn
    rw [Nat.sub_self] at h3
    have := mul_div h1
    have h3 : p / 2 ^ n = 0 := by simpa using h3
    rw [h3, Nat.zero_mul] at this
    rw [← this]
  · rintro rfl
    exact ⟨by simp, Nat.le_refl _, by simp, hfree _ _, .inl rfl⟩
theorem put_del {N n p : Nat} {L L' : List Blk} (hS : St N L) (ha : allocB N L n = some (p, L')) : (p, n) ∈ L' ∧ InB N (p, n) ∧ delB L' (p, n) = L := by
  obtain ⟨j, k, hj, hnk, hin, hf, hnN, _⟩ := alloc_found hS ha
  have hL' : L' = putB L (p, n) := by
    unfold allocB at ha
    cases e : bestOf n none (blocksB N L) with
    | none => rw [e] at ha; simp at ha
    | some x =>
      rw [e, Option.map_some, Option.some.injEq, Prod.mk.injEq] at ha
      rw [← ha.2, ← ha.1]
  subst hL'
  have hS' := alloc_st hS ha
  refine ⟨mem_putB.2 (.inl rfl), hin, ?_⟩
  have hfr := (freeB_iff hS.inb hin.2.1).1 hf
  have hni : (p, n) ∉ L := fun hm => by
    rcases disj_of hS.inb hin hfr hm with h | h <;> (have := pow_pos2 n; simp only at h; omega)
  refine asc_eq (asc_lt hS'.del.asc) (asc_lt hS.asc) fun z => ?_
  rw [mem_delB, mem_putB]
  constructor
  · rintro ⟨h1 | h1, h2⟩
    · exact absurd h1 h2
    · exact h1
  · intro h
    exact ⟨.inr h, fun e => hni (e ▸ h)⟩

/-! Numbers of 16 bits. -/
def U16At (w : World) (A : Option Addr) (c : Nat) (T : List Nat) : Prop :=
  T.length ≤ c ∧ c ≤ maxLen ∧ ∀ (j x : Nat), T[j]? = some x → ∃ g o, A = some ⟨g, o, none⟩ ∧ g < w.heap.size ∧ w.cell? ⟨g, o + j, none⟩ = some (.int .u16 (x : Int)) ∧ x < 65536
section
variable {H : Type} {enc : TypeId × Value → H} {W : World} {v : Value} {d : DataW H} {p : List MemPlace}
open Go.ChangeShapes Go.WideShapes Go.ChangeAt Go.RowKit Go.Deep Go.Joins
end
end Bu
end Go.Proofs.Ytlknhbcambdccaa
