/- The reference's copied: how bools are appended; one slab more. -/
import Derived.Test.YtlknhbcambdccaaJZB
namespace Go.Proofs.Ytlknhbcambdccaa
open Go.RowKit
namespace Sl
open Bu

theorem row_sameB {w w' : World} {B e s n : Nat} {v : Value} {xs : List Value} (h : w.ownsRow B e s v n xs) (hk : ∀ g, v.ownBlock = some g → w'.heap[g]? = w.heap[g]?) : w'.ownsRow B e s v n xs := by
  refine ⟨h.1, ?_⟩
  rcases h.2 with hn | ⟨g, cap, cur, rfl, hB, hgg, rest⟩
  · exact .inl hn
  · exact .inr ⟨g, cap, cur, rfl, hB, by rw [hk g rfl]; exact hgg, rest⟩
theorem bcells_add (a b : List Bool) : bcells (a ++ b) = bcells a ++ bcells b := by simp [bcells]
theorem bool_addr {w : World} {ad : Addr} {c : Nat} {us : List Bool} (h : BoolAt 0 w (some ad) c us) : ∀ j u, (bcells us)[j]? = some u → w.cell? (ad.add j) = some u := by
  intro j u hu
  rw [bcells_get] at hu
  obtain ⟨v, hv, rfl⟩ := Option.map_eq_some_iff.1 hu
  obtain ⟨g, o, h1, _, _, h3⟩ := h.2.2 j v hv
  injection h1 with h1
  rw [h1, add_plain]
  exact h3

set_option maxRecDepth 100000 in
theorem run_append_bool (w : World) (ty : TypeId) (base : Nat) (v : Value) (X : List Bool) (hown : w.ownsRow base 4 1 v X.length (bcells X))
    (A : Option Addr) (c : Nat) (M : List Bool) (hM : BoolAt 0 w A c M) (hp : 0 < M.length) (hlen : X.length + M.length ≤ 1000000) (hbase : base ≤ w.heap.size) :
    ∃ A' c' w', (Builtin.append_ #[88, 88] ty #[v, .slice A M.length c]).run Try.prog w = .ok (.slice A' (X ++ M).length c') w' ∧ w'.ownsRow base 4 1 (.slice A' (X ++ M).length c') (X ++ M).length (bcells (X ++ M)) ∧ w.grownBy w' v.ownBlock := by
  obtain ⟨i0, hi0, hz0, hz1, hz2⟩ := info_parts bool_info
  obtain ⟨v0, hv0⟩ : ∃ v0, M[0]? = some v0 := ⟨_, List.getElem?_eq_getElem hp⟩
  obtain ⟨g, o, rfl, _⟩ := hM.2.2 0 v0 hv0
  obtain ⟨v', w', hr, h2, h3, _⟩ := run_append_own (P := Try.prog) w base 88 ty 4 i0 (.bool false) 1 1 Try.underlying88 hi0 hz0 hz1 hz2 rfl (by omega) v X.length (bcells X) hown ⟨g, o, none⟩ M.length c (bcells M) (by rw [bcells_len]; omega) (bool_addr hM) (fun u hu => by
    unfold bcells at hu
    obtain ⟨x, _, rfl⟩ := List.mem_map.1 hu
    rfl) (by unfold maxLen; omega) (by omega) hbase
  rw [← List.length_append, ← bcells_add] at h2
  obtain ⟨A', c', rfl⟩ := own_row h2
  exact ⟨A', c', w', hr, h2, h3⟩

theorem step_append_bool {w : World} {ops : Array Oper} {o : Oper} {a : Act} {K : Act → World → Prop} {Q : Exit → Act → World → Prop} {E : Prop} (hgd : o.guard = none) (s x : Operand)
    (ho : o.op = .call { callee := .builtin .append, args := #[s, x], argTypes := #[88, 88] })
    (base : Nat) (v : Value) (X : List Bool) (hs : a.eval s = v) (hown : w.ownsRow base 4 1 v X.length (bcells X))
    (A : Option Addr) (c : Nat) (M : List Bool) (hx : a.eval x = .slice A M.length c) (hM : BoolAt 0 w A c M) (hp : 0 < M.length) (hlen : X.length + M.length ≤ 1000000) (hbase : base ≤ w.heap.size)
    (h : ∀ A' c' w', w'.ownsRow base 4 1 (.slice A' (X ++ M).length c') (X ++ M).length (bcells (X ++ M)) → w.grownBy w' v.ownBlock → K (a.put o.dst (.slice A' (X ++ M).length c')) w') :
    if Region.wanted o (yielded ops a.tmps) = true then Oper.wp Try.prog o a w K Q else E := by
  have hw : Region.wanted o (yielded ops a.tmps) = true := by simp [Region.wanted, hgd]
  rw [if_pos hw]
  obtain ⟨A', c', w', hrun, h1, h2⟩ := run_append_bool w o.type base v X hown A c M hM hp hlen hbase
  unfold Oper.wp
  simp only [execOp, ho, resolve, invoke, builtin, Sem.run_bind, Sem.run_pure, Result.andThen_ok, List.map_toArray, List.map_cons, List.map_nil, hs, hx, hrun]
  exact h A' c' w' h1 h2

/-- Bools that are appended to an empty slice of the call's own. -/
theorem step_append_bool0 {w : World} {ops : Array Oper} {o : Oper} {a : Act} {K : Act → World → Prop} {Q : Exit → Act → World → Prop} {E : Prop} (hgd : o.guard = none) (s x : Operand)
    (ho : o.op = .call { callee := .builtin .append, args := #[s, x], argTypes := #[88, 88] })
    (base : Nat) (v : Value) (hs : a.eval s = v) (hown : w.ownsRow base 4 1 v 0 [])
    (A : Option Addr) (c q : Nat) (M : List Bool) (hq : q = M.length) (hx : a.eval x = .slice A q c) (hM : BoolAt 0 w A c M) (hp : 0 < q) (hlen : q ≤ 1000000) (hbase : base ≤ w.heap.size)
    (h : ∀ U c' w', w'.ownsRow base 4 1 (.slice (some ⟨U, 0, none⟩) q c') q (bcells M) → w.grownBy w' v.ownBlock → K (a.put o.dst (.slice (some ⟨U, 0, none⟩) q c')) w') :
    if Region.wanted o (yielded ops a.tmps) = true then Oper.wp Try.prog o a w K Q else E := by
  subst hq
  refine step_append_bool hgd s x ho base v [] hs hown A c M hx hM hp (by simpa using hlen) hbase ?_
  intro A' c' w' h1 h2
  rw [List.nil_append] at h1 ⊢
  obtain ⟨U, rfl⟩ := row_some h1 hp
  exact h U c' w' h1 h2
theorem bool_empty (w : World) (B : Nat) (hB : B ≤ w.heap.size) : (w.alloc (.cells #[] 4)).ownsRow B 4 1 (.slice (some ⟨w.heap.size, 0, none⟩) 0 0) 0 [] :=
  ⟨rfl, .inr ⟨w.heap.size, 0, #[], rfl, hB, by rw [heapAlloc, if_pos rfl], Nat.le_refl _, Nat.zero_le _, rfl, rfl⟩⟩

/-- What copied has made after k slabs. -/
def CopI (w : World) (S : Nat) (s o kp : Int) (sl : List Slb) (k : Nat) (W : World) : Prop :=
  ∃ A cp q, q.length = k ∧ q.map (·.1) = sl.take k ∧ (∀ (j : Nat) (x : RS), q[j]? = some x → W.ownsRow (S + 1) 4 1 (.slice (some ⟨x.2.1, 0, none⟩) x.1.us.length x.2.2) x.1.us.length (bcells x.1.us) ∧ A.map (·.block) ≠ some x.2.1) ∧
    q.Pairwise (fun a b => a.2.1 < b.2.1) ∧ OwnR W (S + 1) A cp q ∧
    W.heap[S]? = some (.cells #[.int .i64 s, .int .i64 o, .int .i64 kp, .slice A k cp] 69 (0, 0)) ∧
    W.heap[w.heap.size]? = some (.cells #[.int .i64 0, .int .i64 0, .int .i64 0, .slice none 0 0] 69 (0, 0)) ∧ Below w.heap.size w W

theorem copy_step {w wr w5 W : World} {S k cp g6 cap6 c5 U : Nat} {s o kp : Int} {sl : List Slb} {A : Option Addr} {q : List RS} {x : Slb} (hS : S = w.heap.size + 1) (hkq : q.length = k) (hq : q.map (·.1) = sl.take k)
    (hu : ∀ (j : Nat) (x : RS), q[j]? = some x → wr.ownsRow (S + 1) 4 1 (.slice (some ⟨x.2.1, 0, none⟩) x.1.us.length x.2.2) x.1.us.length (bcells x.1.us) ∧ A.map (·.block) ≠ some x.2.1) (hp : q.Pairwise (fun a b => a.2.1 < b.2.1))
    (hr : wr.ownsRow (S + 1) 90 2 (.slice A k cp) k (rcells q)) (hSc : wr.heap[S]? = some (.cells #[.int .i64 s, .int .i64 o, .int .i64 kp, .slice A k cp] 69 (0, 0)))
    (hRc : wr.heap[w.heap.size]? = some (.cells #[.int .i64 0, .int .i64 0, .int .i64 0, .slice none 0 0] 69 (0, 0))) (hb : Below w.heap.size w wr) (hx : sl[k]? = some x)
    (h5 : w5.ownsRow wr.heap.size 4 1 (.slice (some ⟨U, 0, none⟩) x.us.length c5) x.us.length (bcells x.us)) (hb5 : Below wr.heap.size wr w5)
    (h6 : W.ownsRow (S + 1) 90 2 (.slice (some ⟨g6, 0, none⟩) (k + 1) cap6) (k + 1) (rcells q ++ [.int .i64 (x.pg : Int), .slice (some ⟨U, 0, none⟩) x.us.length c5])) (hg : (w5.alloc (.cells #[.int .i64 (x.pg : Int), .slice (some ⟨U, 0, none⟩) x.us.length c5] 90)).grownBy W (Value.slice A k cp).ownBlock) (hat : (Value.slice A k cp).ownBlock = some g6 ∨ g6 = w5.heap.size + 1) :
    CopI w S s o kp sl (k + 1) (W.setCell ⟨S, 3, none⟩ (.slice (some ⟨g6, 0, none⟩) (k + 1) cap6)) := by
  have hSl := lt_of_heap hSc
  have h5s := hb5.size
  have hal : (w5.alloc (.cells #[.int .i64 (x.pg : Int), .slice (some ⟨U, 0, none⟩) x.us.length c5] 90)).heap.size = w5.heap.size + 1 := by simp
  have hgs := hg.size
  have hrow : ∀ z, (Value.slice A k cp).ownBlock = some z → S + 1 ≤ z ∧ z < wr.heap.size := fun z hz => hr.lt z hz
  have hold : ∀ z, z < wr.heap.size → some z ≠ (Value.slice A k cp).ownBlock → W.heap[z]? = wr.heap[z]? := fun z hz hn => (hg.block z (by omega) hn).trans ((alloc_old _ _ _ (by omega)).trans (hb5.block z hz))
  have hnew : ∀ z, wr.heap.size ≤ z → z < w5.heap.size → W.heap[z]? = w5.heap[z]? := fun z hz h => (hg.block z (by omega) (fun e => by have := (hrow z e.symm).2; omega)).trans (alloc_old _ _ _ h)
  have hnS : some S ≠ (Value.slice A k cp).ownBlock := fun e => by have := (hrow S e.symm).1; omega
  have hnR : some w.heap.size ≠ (Value.slice A k cp).ownBlock := fun e => by have := (hrow _ e.symm).1; omega
  have hwS : W.heap[S]? = _ := (hold S hSl hnS).trans hSc
  have hU := h5.lt U rfl
  have hkS : ∀ z, z ≠ S → (W.setCell ⟨S, 3, none⟩ (.slice (some ⟨g6, 0, none⟩) (k + 1) cap6)).heap[z]? = W.heap[z]? := fun z hz => setCell_far _ _ _ _ hz
  have hlen : (q ++ [(x, U, c5)]).length = k + 1 := by rw [List.length_append, List.length_singleton, hkq]
  refine ⟨some ⟨g6, 0, none⟩, cap6, q ++ [(x, U, c5)], hlen, ?_, fun j y hy => ?_, ?_, ?_, setCell_at W S 3 _ _ _ hwS, ?_, ?_⟩
  · rw [List.map_append, hq, take_snocX hx]; rfl
  · by_cases hj : j < q.length
    · rw [List.getElem?_append_left hj] at hy
      obtain ⟨h1, h2⟩ := hu j y hy
      have hl := h1.lt y.2.1 rfl
      refine ⟨row_sameB h1 fun g hg' => ?_, fun e => ?_⟩
      · have hg' : y.2.1 = g := by injection hg'
        rw [← hg', hkS _ (by omega)]
        exact hold _ hl.2 (fun e => h2 (by rw [← own_blk (n := k) (cap := cp)]; exact e.symm))
      · injection e with e
        have e : g6 = y.2.1 := e
        rcases hat with h7 | h7
        · exact h2 (by rw [← own_blk (n := k) (cap := cp), h7, e])
        · omega
    · rw [List.getElem?_append_right (by omega)] at hy
      have hy : [(x, U, c5)][j - q.length]? = some y := hy
      have hj0 : j - q.length = 0 := by have := (List.getElem?_eq_some_iff.1 hy).1; simpa using this
      rw [hj0] at hy
      injection hy with hy
      subst hy
      refine ⟨row_low (B := wr.heap.size) (row_keep h5 fun z h1 h2 => (hkS z (by omega)).trans (hnew z h1 h2)) (by omega), fun e => ?_⟩
      injection e with e
      have e : g6 = U := e
      rcases hat with h7 | h7
      · have := (hrow g6 h7).2; omega
      · omega
  · rw [List.pairwise_append]
    refine ⟨hp, List.pairwise_singleton _ _, fun a ha b hb' => ?_⟩
    obtain ⟨j, hj⟩ := List.mem_iff_getElem?.1 ha
    have hl := (hu j a hj).1.lt a.2.1 rfl
    have hb' : b = (x, U, c5) := by simpa using hb'
    rw [hb']
    show a.2.1 < U
    omega
  · show World.ownsRow _ _ _ _ _ _ _
    rw [hlen, rcells_add, rcells_one']
    exact row_keep h6 fun z h1 h2 => hkS z (by omega)
  · rw [hkS _ (by omega)]
    exact (hold _ (lt_of_heap hRc) hnR).trans hRc
  · refine ((((hb.trans (hb5.mono hb.size)).alloc (by have := hb.size; omega) _).grown hg (by have := hb.size; omega) fun z hz => by have := (hrow z hz).1; omega).setCell (p := ⟨S, 3, none⟩) (by show w.heap.size ≤ S; omega) _)
end Sl
end Go.Proofs.Ytlknhbcambdccaa
