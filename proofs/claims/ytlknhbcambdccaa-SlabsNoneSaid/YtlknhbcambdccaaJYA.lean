/- Slices of addresses: parts of them, and how they are appended. -/
import Derived.Test.YtlknhbcambdccaaK28
import Derived.Test.YtlknhbcambdccaaJXQ
import Derived.Test.YtlknhbcambdccaaK33
import Derived.Deep.RegionLaw
namespace Go.Proofs.Ytlknhbcambdccaa
open Go.RowKit
namespace Sl
open Bu

/-- A slice of addresses that lies somewhere. -/
structure I64At (w : World) (A : Option Addr) (c : Nat) (M : List Nat) : Prop where
  len : M.length ≤ c
  cap : c ≤ maxLen
  at_ : ∀ (j x : Nat), M[j]? = some x → ∃ g o, A = some ⟨g, o, none⟩ ∧ g < w.heap.size ∧ w.cell? ⟨g, o + j, none⟩ = some (.int .i64 (x : Int))
abbrev Own64 (w : World) (B : Nat) (A : Option Addr) (c : Nat) (M : List Nat) : Prop := w.ownsRow B 2 1 (.slice A M.length c) M.length (n64 M)

theorem n64_len (M : List Nat) : (n64 M).length = M.length := List.length_map _
theorem n64_get {M : List Nat} {j x : Nat} (h : M[j]? = some x) : (n64 M)[j]? = some (.int .i64 (x : Int)) := by unfold n64; rw [List.getElem?_map, h]; rfl
theorem own64_at {w : World} {B c : Nat} {A : Option Addr} {M : List Nat} (h : Own64 w B A c M) : I64At w A c M := by
  rcases h.2 with ⟨hv, h0⟩ | ⟨g, cp, cur, hv, _, hg, h1, h2, _⟩
  · injection hv with e1 e2 e3
    refine ⟨by omega, by unfold maxLen; omega, fun j x hx => ?_⟩
    have := (List.getElem?_eq_some_iff.1 hx).1; omega
  · injection hv with e1 e2 e3
    subst e1; subst e3
    exact ⟨h1, h2, fun j x hx => ⟨g, 0, rfl, lt_of_heap hg, by rw [Nat.zero_add]; exact row_at h (n64_get hx)⟩⟩
theorem I64At.below {w w' : World} {A : Option Addr} {c : Nat} {M : List Nat} (h : I64At w A c M) (hb : Below w.heap.size w w') : I64At w' A c M :=
  ⟨h.len, h.cap, fun j x hx => by
    obtain ⟨g, o, h1, h2, h3⟩ := h.at_ j x hx
    exact ⟨g, o, h1, Nat.lt_of_lt_of_le h2 hb.size, (hb.cell (p := ⟨g, o + j, none⟩) h2).trans h3⟩⟩
theorem I64At.take {w : World} {A : Option Addr} {c k : Nat} {M : List Nat} (h : I64At w A c M) : I64At w A c (M.take k) :=
  ⟨by have := h.len; simp; omega, h.cap, fun j x hx => by
    rw [List.getElem?_take] at hx
    split at hx
    · exact h.at_ j x hx
    · cases hx⟩
theorem I64At.drop {w : World} {g o c k : Nat} {M : List Nat} (h : I64At w (some ⟨g, o, none⟩) c M) (hk : k ≤ M.length) : I64At w (some ⟨g, o + k, none⟩) (c - k) (M.drop k) := by
  have h1 := h.len
  have h2 := h.cap
  refine ⟨by simp; omega, by omega, fun j x hx => ?_⟩
  rw [List.getElem?_drop] at hx
  obtain ⟨g', o', hA, hg, d⟩ := h.at_ _ x hx
  injection hA with hA; injection hA with e1 e2
  subst e1; subst e2
  exact ⟨g, o + k, rfl, hg, by rw [Nat.add_assoc]; exact d⟩

theorem i64_addr {w : World} {A : Option Addr} {ad : Addr} {c : Nat} {M : List Nat} (h : I64At w A c M) (hA : A = some ad) : ∀ j u, (n64 M)[j]? = some u → w.cell? (ad.add j) = some u := by
  intro j u hu
  have hj : j < M.length := by have := (List.getElem?_eq_some_iff.1 hu).1; rwa [n64_len] at this
  obtain ⟨x, hx⟩ : ∃ x, M[j]? = some x := ⟨_, List.getElem?_eq_getElem hj⟩
  rw [n64_get hx] at hu
  injection hu with hu
  obtain ⟨g, o, h1, _, h3⟩ := h.at_ j x hx
  rw [hA] at h1
  injection h1 with h1
  rw [h1, ← hu]
  have e : (⟨g, o, none⟩ : Addr).add j = ⟨g, o + j, none⟩ := by simp [Addr.add]
  rw [e]
  exact h3

set_option maxRecDepth 100000 in
theorem run_append_i64 (w : World) (ty : TypeId) (base : Nat) (v : Value) (X : List Nat) (hown : w.ownsRow base 2 1 v X.length (n64 X))
    (A : Option Addr) (c : Nat) (M : List Nat) (hM : I64At w A c M) (hn : A = none → c = 0) (hlen : X.length + M.length ≤ 1000000) (hbase : base ≤ w.heap.size) :
    ∃ A' c' w', (Builtin.append_ #[48, 48] ty #[v, .slice A M.length c]).run Try.prog w = .ok (.slice A' (X ++ M).length c') w' ∧ Own64 w' base A' c' (X ++ M) ∧ w.grownBy w' v.ownBlock := by
  obtain ⟨i0, z0, hi0, hz0, hz1, hz2, hz3⟩ := info_open i64_info
  have hcl : n64 (X ++ M) = n64 X ++ n64 M := by simp [n64]
  cases A with
  | none =>
    obtain rfl := hn rfl
    have hM0 : M = [] := List.length_eq_zero_iff.1 (by have := hM.len; omega)
    subst hM0
    have hrun := run_append_owned_none (P := Try.prog) (w := w) base 48 ty 2 i0 1 Try.underlying48 hi0 v X.length (n64 X) hown
    obtain ⟨A', c', rfl⟩ := own_row hown
    rw [List.append_nil]
    exact ⟨A', c', w, hrun, hown, grown_refl _ _⟩
  | some ad =>
    obtain ⟨v', w', hr, h2, h3, _⟩ := run_append_own (P := Try.prog) w base 48 ty 2 i0 z0 1 8 Try.underlying48 hi0 hz0 hz1 hz2 hz3 (by omega) v X.length (n64 X) hown ad M.length c (n64 M) (by rw [n64_len]; omega) (i64_addr hM rfl) (fun u hu => by
      unfold n64 at hu
      obtain ⟨x, _, rfl⟩ := List.mem_map.1 hu
      rfl) (by unfold maxLen; omega) (by omega) hbase
    rw [← List.length_append, ← hcl] at h2
    obtain ⟨A', c', rfl⟩ := own_row h2
    exact ⟨A', c', w', hr, h2, h3⟩

theorem step_append_i64 {w : World} {ops : Array Oper} {o : Oper} {a : Act} {K : Act → World → Prop} {Q : Exit → Act → World → Prop} {E : Prop} (hgd : o.guard = none) (s x : Operand)
    (ho : o.op = .call { callee := .builtin .append, args := #[s, x], argTypes := #[48, 48] })
    (base : Nat) (v : Value) (X : List Nat) (hs : a.eval s = v) (hown : w.ownsRow base 2 1 v X.length (n64 X))
    (A : Option Addr) (c : Nat) (M : List Nat) (hx : a.eval x = .slice A M.length c) (hM : I64At w A c M) (hn : A = none → c = 0) (hlen : X.length + M.length ≤ 1000000) (hbase : base ≤ w.heap.size)
    (h : ∀ A' c' w', Own64 w' base A' c' (X ++ M) → w.grownBy w' v.ownBlock → K (a.put o.dst (.slice A' (X ++ M).length c')) w') :
    if Region.wanted o (yielded ops a.tmps) = true then Oper.wp Try.prog o a w K Q else E := by
  have hw : Region.wanted o (yielded ops a.tmps) = true := by simp [Region.wanted, hgd]
  rw [if_pos hw]
  obtain ⟨A', c', w', hrun, h1, h2⟩ := run_append_i64 w o.type base v X hown A c M hM hn hlen hbase
  unfold Oper.wp
  simp only [execOp, ho, resolve, invoke, builtin, Sem.run_bind, Sem.run_pure, Result.andThen_ok, List.map_toArray, List.map_cons, List.map_nil, hs, hx, hrun]
  exact h A' c' w' h1 h2

theorem row_empty64 (w : World) (B : Nat) (hB : B ≤ w.heap.size) : ((w.alloc (.cells #[] 2)).drew).ownsRow B 2 1 (.slice (some ⟨w.heap.size, 0, none⟩) 0 0) 0 (n64 []) := by
  refine ⟨rfl, .inr ⟨w.heap.size, 0, #[], rfl, hB, ?_, Nat.le_refl _, by unfold maxLen; omega, rfl, rfl⟩⟩
  show (w.alloc _).heap[w.heap.size]? = _
  rw [heapAlloc, if_pos rfl]

theorem own64_some {w : World} {B c : Nat} {A : Option Addr} {M : List Nat} (h : Own64 w B A c M) (hp : 0 < M.length) : ∃ g, A = some ⟨g, 0, none⟩ ∧ B ≤ g ∧ g < w.heap.size := by
  rcases h.2 with ⟨_, h0⟩ | ⟨g, cap, cur, hv, hB, hg, _⟩
  · omega
  · injection hv with h1 h2 h3
    exact ⟨g, h1, hB, lt_of_heap hg⟩
theorem own64_low {w : World} {B B' c : Nat} {A : Option Addr} {M : List Nat} (h : Own64 w B A c M) (hB : B' ≤ B) : Own64 w B' A c M := row_low h hB
end Sl
end Go.Proofs.Ytlknhbcambdccaa
