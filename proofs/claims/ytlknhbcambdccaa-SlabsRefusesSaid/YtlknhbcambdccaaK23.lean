/- Slabs, plain: a new slab among the others. A new slab: the cache as it lies in memory. Alloc, of a new slab. Sizes; New of a cache. -/
import Derived.Test.YtlknhbcambdccaaK16
import Derived.Test.YtlknhbcambdccaaK13
import Derived.Test.YtlknhbcambdccaaK17
import Derived.Test.YtlknhbcambdccaaK22
import Derived.Deep.CutRange
namespace Go.Proofs.Ytlknhbcambdccaa
open Go.RowKit
namespace Bu

theorem asc_pages : ∀ {l : List Slb}, l.Pairwise (fun a b => a.pg < b.pg) → ∀ s, (∀ y ∈ l, s ≤ y.pg ∧ y.pg < 1024) → s ≤ 1024 → l.length + s ≤ 1024 := by
  intro l
  induction l with
  | nil => intro _ s _ h; simpa using h
  | cons y l ih =>
    intro hp s hb hs
    rw [List.pairwise_cons] at hp
    have hy := hb y (List.mem_cons_self ..)
    have := ih hp.2 (y.pg + 1) (fun z hz => ⟨hp.1 z hz, (hb z (List.mem_cons_of_mem _ hz)).2⟩) (by omega)
    rw [List.length_cons]; omega

theorem mem_insS {x z : Slb} : ∀ {l : List Slb}, z ∈ insS l x ↔ z = x ∨ z ∈ l := by
  intro l
  induction l with
  | nil => simp [insS]
  | cons y l ih =>
    unfold insS
    split
    · simp
    · rw [List.mem_cons, ih, List.mem_cons]
      constructor
      · rintro (h | h | h)
        · exact .inr (.inl h)
        · exact .inl h
        · exact .inr (.inr h)
      · rintro (h | h | h)
        · exact .inr (.inl h)
        · exact .inl h
        · exact .inr (.inr h)
theorem insS_asc {x : Slb} : ∀ {l : List Slb}, l.Pairwise (fun a b => a.pg < b.pg) → (∀ y ∈ l, y.pg ≠ x.pg) → (insS l x).Pairwise fun a b => a.pg < b.pg := by
  intro l
  induction l with
  | nil => intro _ _; exact List.pairwise_singleton _ _
  | cons y l ih =>
    intro h hne
    rw [List.pairwise_cons] at h
    unfold insS
    have hy := hne y (List.mem_cons_self ..)
    split
    · next e =>
      refine List.pairwise_cons.2 ⟨fun z hz => ?_, List.pairwise_cons.2 h⟩
      rcases List.mem_cons.1 hz with rfl | hz
      · exact e
      · have := h.1 z hz; omega
    · next e =>
      refine List.pairwise_cons.2 ⟨fun z hz => ?_, ih h.2 fun z hz => hne z (List.mem_cons_of_mem _ hz)⟩
      rcases mem_insS.1 hz with rfl | hz
      · omega
      · exact h.1 z hz
theorem insS_len (x : Slb) : ∀ l : List Slb, (insS l x).length = l.length + 1 := by
  intro l
  induction l with
  | nil => rfl
  | cons y l ih => unfold insS; split <;> simp [ih]
theorem empty_ins (x : Slb) (hx : x.many ≠ 0) : ∀ l : List Slb, emptyS (insS l x) = emptyS l := by
  intro l
  induction l with
  | nil => unfold insS emptyS; simp [hx]
  | cons y l ih =>
    unfold insS
    split
    · unfold emptyS; rw [List.filter_cons]; simp [hx]
    · unfold emptyS at ih ⊢
      rw [List.filter_cons, List.filter_cons]
      split
      · rw [List.length_cons, List.length_cons, ih]
      · exact ih

/-- A block that Alloc gives is none of the slabs'. -/
theorem fresh_page {C : Ca} {N p : Nat} {L L' : List Blk} (h : CaOk C N L) (ha : allocB N L C.order = some (p, L')) : ∀ y ∈ C.sl, y.pg ≠ p := by
  intro y hy e
  obtain ⟨_, _, _, _, hin, hf, _⟩ := alloc_found h.st ha
  have hfr := (freeB_iff h.st.inb hin.2.1).1 hf
  have hp := pow_pos2 C.order
  rcases disj_of h.st.inb hin hfr (h.giv y hy) with h1 | h1
  · have h1 : p + 2 ^ C.order ≤ y.pg := h1; omega
  · have h1 : y.pg + 2 ^ C.order ≤ p := h1; omega

theorem put_is {N n p : Nat} {L L' : List Blk} (ha : allocB N L n = some (p, L')) : L' = putB L (p, n) := by
  unfold allocB at ha
  cases e : bestOf n none (blocksB N L) with
  | none => rw [e] at ha; simp at ha
  | some x =>
    rw [e, Option.map_some, Option.some.injEq, Prod.mk.injEq] at ha
    rw [← ha.2, ← ha.1]

theorem page_lt {N : Nat} {C : Ca} {L : List Blk} (h : CaOk C N L) : ∀ y ∈ C.sl, y.pg < 1024 := fun y hy => by
  have h2 := st_le h.st _ (h.giv y hy)
  have h3 : y.pg + 2 ^ C.order ≤ 1024 := h2.2
  have := pow_pos2 C.order
  omega

/-- What holds of a cache with one more slab. -/
theorem ok_ins {C : Ca} {N p : Nat} {L L' : List Blk} {us : List Bool} (h : CaOk C N L) (ha : allocB N L C.order = some (p, L')) (hl : us.length = capa C.size C.order) (hm : us.count true ≠ 0) : CaOk { C with sl := insS C.sl ⟨p, us⟩ } N L' := by
  have hput := put_is ha
  have hne := fresh_page h ha
  refine ⟨h.sz, h.od, h.kp, h.fit, alloc_st h.st ha, insS_asc h.asc hne, fun y hy => ?_, fun y hy => ?_, ?_⟩
  · rw [hput]
    rcases mem_insS.1 hy with rfl | hy
    · exact mem_putB.2 (.inl rfl)
    · exact mem_putB.2 (.inr (h.giv y hy))
  · rcases mem_insS.1 hy with rfl | hy
    · exact hl
    · exact h.len y hy
  · show emptyS (insS C.sl ⟨p, us⟩) ≤ C.keep
    rw [empty_ins ⟨p, us⟩ hm]; exact h.emp
theorem len_ins {C : Ca} {N p : Nat} {L L' : List Blk} (h : CaOk C N L) (ha : allocB N L C.order = some (p, L')) (hp : p < 1024) : C.sl.length ≤ 1023 := by
  have h1 := insS_asc (x := ⟨p, []⟩) h.asc (fresh_page h ha)
  have := asc_pages h1 0 (fun y hy => ⟨Nat.zero_le _, by
    rcases mem_insS.1 hy with rfl | hy
    · exact hp
    · exact page_lt h y hy⟩) (by omega)
  rw [insS_len] at this
  omega
end Bu
end Go.Proofs.Ytlknhbcambdccaa
namespace Go.Proofs.Ytlknhbcambdccaa
open Go.RowKit
namespace Sl
open Bu

theorem ins_get {α : Type} {l : List α} {i k : Nat} {a : α} (hi : i ≤ l.length) : (l.take i ++ a :: l.drop i)[k]? = if k < i then l[k]? else if k = i then some a else l[k - 1]? := by
  have hl : (l.take i).length = i := by rw [List.length_take]; omega
  by_cases h1 : k < i
  · rw [if_pos h1, List.getElem?_append_left (by omega), List.getElem?_take, if_pos h1]
  · rw [if_neg h1, List.getElem?_append_right (by omega), hl]
    by_cases h2 : k = i
    · subst h2; simp
    · rw [if_neg h2, show k - i = (k - i - 1) + 1 by omega, List.getElem?_cons_succ, List.getElem?_drop]
      congr 1
      omega
theorem ins_perm {α : Type} (l : List α) (i : Nat) (a : α) : (l.take i ++ a :: l.drop i).Perm (a :: l) := by
  have := @List.perm_middle α a (l.take i) (l.drop i)
  rw [List.take_append_drop] at this
  exact this

/-- Which blocks are the cache's, with those of a new slab. -/
def ownI (own : Own?) (px u g : Nat) : Own? := fun k => if k = u then some (px + 10) else if k = px then some 3 else if k = g then some 2 else own k

theorem cache_ins {W W' : World} {own : Own?} {c b : Nat} {C : Ca} {e e' : Nat} {A : Option Addr} {cap cap' : Nat} {R : List Nat} {p u px g ucap m' : Nat} {us : List Bool} (h : CacheAt W own c b C e A cap R)
    (hne : ∀ y ∈ C.sl, y.pg ≠ p) (hu0 : own u = none) (hp0 : own px = none) (hg0 : own g = some 2 ∨ own g = none) (hup : u ≠ px) (hgu : g ≠ u) (hgp : g ≠ px)
    (hc' : W'.heap[c]? = some (.cells #[.pointer (some ⟨b, 0, none⟩), .int .i64 (C.size : Int), .int .i64 (C.order : Int), .int .i64 (C.keep : Int), .slice (some ⟨g, 0, none⟩) (R.length + 1) cap', .int .i64 (e' : Int)] 78 (0, 0)))
    (hr' : W'.ownsRow 0 97 1 (.slice (some ⟨g, 0, none⟩) (R.length + 1) cap') (R.length + 1) (ptrs (R.take (posS C.sl p) ++ px :: R.drop (posS C.sl p))))
    (hp' : W'.heap[px]? = some (.cells #[.int .i64 (p : Int), .slice (some ⟨u, 0, none⟩) us.length ucap, .int .i64 (m' : Int)] 101 (0, 0)))
    (hu' : W'.ownsRow 0 4 1 (.slice (some ⟨u, 0, none⟩) us.length ucap) us.length (bcells us)) (hm' : m' = us.count true)
    (hk : ∀ k, own k ≠ none → k ≠ c → A.map (·.block) ≠ some k → k < W.heap.size → W'.heap[k]? = W.heap[k]?) :
    CacheAt W' (ownI own px u g) c b { C with sl := insS C.sl ⟨p, us⟩ } e' (some ⟨g, 0, none⟩) cap' (R.take (posS C.sl p) ++ px :: R.drop (posS C.sl p)) := by
  have hown : ∀ k, own k ≠ none → ownI own px u g k = own k := by
    intro k hkn
    unfold ownI
    rw [if_neg (fun e => hkn (by rw [e]; exact hu0)), if_neg (fun e => hkn (by rw [e]; exact hp0))]
    split
    · next e => subst e; rcases hg0 with h0 | h0
                · exact h0.symm
                · exact absurd h0 hkn
    · rfl
  have hpl := posS_le C.sl p
  have hlen := h.len
  have hRl : (R.take (posS C.sl p) ++ px :: R.drop (posS C.sl p)).length = R.length + 1 := by rw [(ins_perm R _ px).length_eq]; rfl
  have hins := insS_at (x := ⟨p, us⟩) hne
  have hpR : px ∉ R := fun hm => by
    obtain ⟨k, hkl, hke⟩ := List.mem_iff_getElem.1 hm
    have hR : R[k]? = some px := by rw [List.getElem?_eq_getElem hkl, hke]
    obtain ⟨x, hx⟩ : ∃ x, C.sl[k]? = some x := ⟨_, List.getElem?_eq_getElem (by omega)⟩
    obtain ⟨_, _, hs⟩ := h.slab k px x hR hx
    have := hs.ownP
    rw [hp0] at this; cases this
  refine ⟨(hown c (by rw [h.ownC]; simp)).trans h.ownC, (hown b (by rw [h.ownB]; simp)).trans h.ownB, by rw [hRl]; exact hc', by rw [hRl]; exact hr', fun g' hg' => ?_, ?_, ?_, fun k q y hq hy => ?_⟩
  · injection hg' with hg'
    show ownI own px u g g' = some 2
    rw [← hg']
    unfold ownI
    rw [if_neg hgu, if_neg hgp, if_pos rfl]
  · show _ = (insS C.sl ⟨p, us⟩).length
    rw [hRl, insS_len, hlen]
  · exact (ins_perm R _ px).nodup_iff.2 (List.nodup_cons.2 ⟨hpR, h.nd⟩)
  · have hy : (insS C.sl ⟨p, us⟩)[k]? = some y := hy
    rw [hins] at hy
    have hy := hy.symm.trans (ins_get (l := C.sl) (i := posS C.sl p) (k := k) (a := ⟨p, us⟩) hpl)
    have hq := hq.symm.trans (ins_get (l := R) (i := posS C.sl p) (k := k) (a := px) (by omega))
    have old : ∀ j : Nat, R[j]? = some q → C.sl[j]? = some y → ∃ u2 uc2, SlabAt W' (ownI own px u g) q u2 y.many uc2 y := by
      intro j hj hx
      obtain ⟨u2, uc2, hs⟩ := h.slab j q y hj hx
      refine ⟨u2, uc2, hs.same fun z hz hl => ?_⟩
      have hz2 : own z ≠ none ∧ z ≠ c ∧ A.map (·.block) ≠ some z := by
        rcases hz with rfl | rfl
        · refine ⟨by rw [hs.ownP]; simp, fun e2 => ?_, fun e2 => ?_⟩
          · have := hs.ownP; rw [e2, h.ownC] at this; cases this
          · have := h.ownG _ e2; rw [hs.ownP] at this; cases this
        · refine ⟨by rw [hs.ownU]; simp, fun e2 => ?_, fun e2 => ?_⟩
          · have := hs.ownU; rw [e2, h.ownC] at this; injection this with this; omega
          · have := h.ownG _ e2; rw [hs.ownU] at this; injection this with this; omega
      exact ⟨hk z hz2.1 hz2.2.1 hz2.2.2 hl, hown z hz2.1⟩
    by_cases h1 : k < posS C.sl p
    · rw [if_pos h1] at hy hq
      exact old k hq.symm hy.symm
    · rw [if_neg h1] at hy hq
      by_cases h2 : k = posS C.sl p
      · rw [if_pos h2] at hy hq
        injection hy with hy
        injection hq with hq
        subst hy; subst hq
        refine ⟨u, ucap, ?_, ?_, ?_, hu'⟩
        · show ownI own q u g q = some 3
          unfold ownI
          rw [if_neg hup.symm, if_pos rfl]
        · show ownI own q u g u = some (q + 10)
          unfold ownI
          rw [if_pos rfl]
        · show W'.heap[q]? = some (.cells #[.int .i64 (p : Int), .slice (some ⟨u, 0, none⟩) us.length ucap, .int .i64 ((us.count true : Nat) : Int)] 101 (0, 0))
          rw [← hm']; exact hp'
      · rw [if_neg h2] at hy hq
        exact old (k - 1) hq.symm hy.symm
end Sl
end Go.Proofs.Ytlknhbcambdccaa
namespace Go.Proofs.Ytlknhbcambdccaa
open Go.RowKit
namespace Sl
open Bu

theorem bool_info : (Try.prog.info? 4).map (fun i => (i.zero, i.size, i.bytes)) = some (some (.bool false), 1, 1) := by kernel_rfl
theorem make_bools (w : World) (z : Nat) (hz : z ≤ 3000) : (Instr.makeSlice 88 (.int .i64 (z : Int)) (.int .i64 (z : Int))).run Try.prog w = .ok (.slice (some ⟨w.heap.size, 0, none⟩) z z) (w.alloc (.cells (Array.replicate z (.bool false)) 4)) := by
  obtain ⟨i0, hi, h0, h1, h2⟩ := info_parts bool_info
  have := run_make (P := Try.prog) w 88 4 i0 (.bool false) Try.underlying88 hi h0 .i64 .i64 z z (by omega) (Int.le_refl _) (by rw [h2]; omega) (by omega)
  rw [this]
  have hm : madeCells (Value.bool false).cells (z * i0.size) = Array.replicate z (.bool false) := by
    rw [h1, Nat.mul_one]
    apply Array.ext
    · simp [size_madeCells]
    · intro j h3 h4
      simp [madeCells, Value.cells]
      rw [Nat.mod_one]; rfl
  simp only [Int.toNat_natCast]
  rw [hm]
theorem bools_new (w : World) (z : Nat) : (w.alloc (.cells (Array.replicate z (.bool false)) 4)).heap[w.heap.size]? = some (.cells (Array.replicate z (.bool false)) 4 (0, 0)) := by rw [heapAlloc, if_pos rfl]

set_option maxRecDepth 100000 in
set_option maxHeartbeats 8000000 in
theorem alloc_new (w : World) (own : Own?) (c b : Nat) (C : Ca) (N : Nat) (L : List Blk) (H : Held w own c b C N L) (p : Nat) (L' : List Blk) (hpick : pickS 0 none C.sl = none) (hgot : allocB N L C.order = some (p, L')) :
    Calls Try.prog 12 #[.pointer (some ⟨c, 0, none⟩)] w fun e w' => e = .returned (.tuple #[.int .i64 ((64 * p : Nat) : Int), .int .i64 0]) ∧ ∃ own', Held w' own' c b { C with sl := insS C.sl ⟨p, true :: List.replicate (capa C.size C.order - 1) false⟩ } N L' ∧ Keeps own own' w w' := by
  obtain ⟨A, cap, R, hC⟩ := H.at_
  have hcl := lt_of_heap hC.cell
  obtain ⟨W1, hW1⟩ : ∃ W1, W1 = w.alloc (.cells #[.pointer none] 97) := ⟨_, rfl⟩
  have hb1 : Below w.heap.size w W1 := by rw [hW1]; exact below_box w _
  have hs1 : W1.heap.size = w.heap.size + 1 := by rw [hW1]; simp
  have hB1 : W1.heap[w.heap.size]? = some (.cells #[.pointer none] 97 (0, 0)) := by rw [hW1, heapAlloc, if_pos rfl]
  have H1 : Held W1 own c b C N L := H.below hb1
  have hC1 : CacheAt W1 own c b C (emptyS C.sl) A cap R := hC.same (fun k _ _ hl => hb1.block k hl) (fun _ _ _ => rfl) rfl
  obtain ⟨_, _, _, _, c4, _, _, _⟩ := six_cells hC.cell
  have hdead := dead_ok w c (some ⟨b, 0, none⟩) (six_cells hC.cell).1
  have HD := Lib.hid hdead
  obtain ⟨n, hn⟩ : ∃ n, n = R.length := ⟨_, rfl⟩
  have hnl : n = C.sl.length := hn.trans hC.len
  rw [← hn] at c4
  have hcap : n ≤ cap ∧ cap ≤ maxLen := by
    rcases hC.row.2 with ⟨hv, h0⟩ | ⟨g, cp, cur, hv, _, _, g1, g2, _⟩
    · injection hv with _ _ h3; unfold maxLen; omega
    · injection hv with _ _ h3; rw [hn, h3]; exact ⟨g1, g2⟩
  obtain ⟨hcap1, hcap2⟩ := hcap
  unfold maxLen at hcap2
  have hBn : own w.heap.size = none := by
    cases e : own w.heap.size with
    | none => rfl
    | some v => exact absurd (H.fresh _ (by rw [e]; simp)) (by omega)
  have HX := Lib.hid (And.intro H1 (And.intro hC1 (And.intro hb1 (And.intro hBn (And.intro hn hnl)))))
  have HL0 := Lib.hid (show LoopI W1 w.heap.size R C.sl 0 W1 from ⟨⟨rfl, rfl, rfl, rfl, fun _ _ => rfl⟩, hB1⟩)
  have HW := Lib.hid hW1
  have HH := Lib.hid H
  clear H hC H1 hC1 hb1 hB1 hW1 hdead hBn hn hnl
  have heq : ∀ (w : World) (p : Option Addr), (Op.equalIn 10000 97 (.pointer p) (.pointer none)).run Try.prog w = .ok p.isNone w := fun w p => run_equalIn_ptr_nil Try.prog w 9999 97 _ p Try.underlying97
  have heq2 := fun w p => run_eql_ptr_nil Try.prog w 97 _ p Try.underlying97
  go_enter Try.func12, Try.ntmps12
  go_wp2_with (go_at_call 34; refine HD.out.mono ?_; rintro e w' ⟨rfl, rfl⟩)
  rw [← HW.out]
  clear c4
  go_loopw [7, 19] (fun _ i wr => ∃ k : Nat, k ≤ n ∧ i = .int .i64 (k : Int) ∧ LoopI W1 w.heap.size R C.sl k wr) (fun _ i _ => n - (intOf i).toNat)
  case atStart => exact ⟨0, Nat.zero_le _, rfl, HL0.out⟩
  case round =>
    obtain ⟨k, hk, rfl, hI⟩ := hrel
    have HI := Lib.hid hI
    clear hI
    have e0 : (0 : Int) ≤ (k : Int) := by omega
    have hkeep : ∀ k', k' ≠ w.heap.size → wr.heap[k']? = W1.heap[k']? := fun k' hk' => HI.out.only.block k' (fun e => hk' (by injection e with e; exact e.symm))
    have HK := Lib.hid hkeep
    clear hkeep
    by_cases hlt : k < n
    · have e1 : (k : Int) < (n : Int) := by omega
      obtain ⟨p, hp⟩ : ∃ p, R[k]? = some p := ⟨_, List.getElem?_eq_getElem (by have := HX.out.2.2.2.2.1; omega)⟩
      obtain ⟨x, hx⟩ : ∃ x, C.sl[k]? = some x := ⟨_, List.getElem?_eq_getElem (by have := HX.out.2.2.2.2.2; omega)⟩
      obtain ⟨u, uc, hs⟩ := HX.out.2.1.slab k p x hp hx
      have hkk : IntKind.i64.wrap ((k : Int) + 1) = ((k + 1 : Nat) : Int) := by rw [IntWalk.i64_in _ (by omega)]; rfl
      have hslb : ∀ (j q : Nat) (y : Slb), R[j]? = some q → C.sl[j]? = some y → wr.cell? ⟨q, 2, none⟩ = some (.int .i64 (y.many : Int)) ∧ ∃ U uc, wr.cell? ⟨q, 1, none⟩ = some (.slice U y.us.length uc) := by
        intro j q y hq hy
        obtain ⟨u, uc, hs⟩ := HX.out.2.1.slab j q y hq hy
        have hqB : q ≠ w.heap.size := fun e => by have := hs.ownP; rw [e, HX.out.2.2.2.1] at this; cases this
        obtain ⟨_, g1, g2, _⟩ := three_cells ((HK.out q hqB).trans hs.cell)
        exact ⟨g2, _, _, g1⟩
      obtain ⟨m2, U, uc', m1⟩ := hslb k p x hp hx
      obtain ⟨bx, bf⟩ := Bu.one_cell HI.out.box
      have hcon := consider_ok wr p x.many x.us.length uc' w.heap.size U (selP R (pickS 0 none (C.sl.take k))) m1 m2 bx bf (fun q mq hq => by
        cases e2 : pickS 0 none (C.sl.take k) with
        | none => rw [e2] at hq; cases hq
        | some y =>
          obtain ⟨y1, y2⟩ := y
          rw [e2] at hq
          injection hq with hq
          injection hq with h1 h2
          obtain ⟨z, hz, hzm, _, hzk⟩ := pickS_some (by have := HX.out.2.2.2.2.2; omega) e2
          obtain ⟨q', hq'⟩ : ∃ q', R[y1]? = some q' := ⟨_, List.getElem?_eq_getElem (by have := HX.out.2.2.2.2.1; omega)⟩
          have h3 : q = q' := by rw [← h1, List.getD_eq_getElem?_getD, hq']; rfl
          rw [h3, ← h2, ← hzm]
          exact (hslb y1 q' z hq' hz).1)
      have HC := Lib.hid hcon
      obtain ⟨g, hA⟩ : ∃ g, A = some ⟨g, 0, none⟩ := by
        rcases HX.out.2.1.row.2 with ⟨_, h0⟩ | ⟨g, cp, cur, hv, _⟩
        · have := HX.out.2.2.2.2.1; omega
        · injection hv with hv; exact ⟨g, hv⟩
      have hrow := HX.out.2.1.row
      have hgo := HX.out.2.1.ownG
      subst hA
      have hgB : g ≠ w.heap.size := fun e => by have := hgo g rfl; rw [e, HX.out.2.2.2.1] at this; cases this
      have hgc := (World.cell?_of_block (a := ⟨g, k, none⟩) (HK.out g hgB)).trans (row_cell hrow (i := k) (v := .pointer (some ⟨p, 0, none⟩)) (by unfold ptrs; rw [List.getElem?_map, hp]; rfl))
      have HP := Lib.hid (And.intro hp hx)
      clear hcon hslb hs hp hx bx bf hrow hgo m1 m2
      go_wp2_with (go_at_call 38; refine HC.out.mono ?_; intro e w6 hr; obtain ⟨rfl, hI6⟩ := HI.out.next HP.out.1 HP.out.2 hr; have H6 := Lib.hid hI6; clear hI6 hr)
      go_roundw
      case rel => exact ⟨k + 1, by omega, by go_num, H6.out⟩
      case measure => simp [intOf]; omega
    · obtain rfl : k = n := by omega
      have e1 : ¬ ((k : Nat) : Int) < (k : Int) := by omega
      have htk : C.sl.take k = C.sl := List.take_of_length_le (by have := HX.out.2.2.2.2.2; omega)
      have hbox := HI.out.box
      rw [htk] at hbox
      clear htk
      rw [hpick] at hbox
      have hbox : wr.heap[w.heap.size]? = some (.cells #[.pointer none] 97 (0, 0)) := hbox
      obtain ⟨bx, bf⟩ := Bu.one_cell hbox
      have hcB : c ≠ w.heap.size := fun e => by have := HX.out.2.1.ownC; rw [e, HX.out.2.2.2.1] at this; cases this
      have hbB : b ≠ w.heap.size := fun e => by have := HX.out.2.1.ownB; rw [e, HX.out.2.2.2.1] at this; cases this
      have hcb : c ≠ b := fun e => by have := HX.out.2.1.ownC; rw [e, HX.out.2.1.ownB] at this; cases this
      have hmC := (HK.out c hcB).trans HX.out.2.1.cell
      have hbu : BuL wr b N L := HX.out.1.bu.keep (HK.out b hbB)
      obtain ⟨c0, c1, c2, c3, c4, c5, _, f5⟩ := six_cells hmC
      have hal := al_some (w := World.drew wr) (hbu.keep rfl) (by have := HX.out.1.ok.od; omega) hgot
      have HAl := Lib.hid hal
      have HS := Lib.hid (And.intro hmC hbox)
      clear hal hmC hbox hbu hpick
      go_upto_region 11 with (fail)
      go_cut [8, 9] from 30 to 40 (fun pv ev wx => pv = .int .i64 (p : Int) ∧ ev = .int .i64 0 ∧ BuL wx b N L' ∧ Grow1 b wr wx)
      case first =>
        go_region_with (go_at_call 39; refine HAl.out.mono ?_; rintro e w5 ⟨rfl, hB5, hg5⟩; have H5 := Lib.hid (And.intro hB5 hg5); clear hB5 hg5)
        all_goals
          go_wp2_with (fail)
          go_meet
          exact ⟨rfl, rfl, H5.out.1, H5.out.2.os, H5.out.2.tape, H5.out.2.output, H5.out.2.size, H5.out.2.block⟩
      case rest =>
        obtain ⟨rfl, rfl, hBc, hgc⟩ := hcut
        have nC := heap_grow hgc hcb HS.out.1
        have nB := heap_grow hgc hbB.symm HS.out.2
        obtain ⟨k0, k1, k2, k3, k4, k5, _, _⟩ := six_cells nC
        obtain ⟨q0, qf⟩ := Bu.one_cell nB
        obtain ⟨cp, hcp⟩ : ∃ cp, cp = capa C.size C.order := ⟨_, rfl⟩
        have hcap' := capa_pos HX.out.1.ok
        have hcc := capacity_ok wc c C.size C.order k1 k2 HX.out.1.ok.sz.1 HX.out.1.ok.od
        rw [← hcp] at hcc hcap'
        have HCap := Lib.hid hcc
        have hmk := fun w => make_bools w cp (by omega)
        have HC5 := Lib.hid (And.intro hBc (And.intro hgc (And.intro nC (And.intro nB hcp))))
        have hBsz := lt_of_heap nB
        clear hBc hgc nC nB hcp hcc c0 c1 c2 c3 c4 c5 f5 bx bf
        go_wp2_with (go_at_call 40; fail)
        refine HCap.out.mono ?_
        rintro e wd ⟨rfl, d, hd⟩
        have hgd : Grow1 b wr wd := by rw [hd]; exact ⟨HC5.out.2.1.os, HC5.out.2.1.tape, HC5.out.2.1.output, HC5.out.2.1.size, HC5.out.2.1.block⟩
        have hbd : BuL wd b N L' := by rw [hd]; exact HC5.out.1.keep rfl
        have nC : wd.heap[c]? = some (.cells #[.pointer (some ⟨b, 0, none⟩), .int .i64 (C.size : Int), .int .i64 (C.order : Int), .int .i64 (C.keep : Int), .slice A R.length cap, .int .i64 (emptyS C.sl : Int)] 78 (0, 0)) := by rw [hd]; exact HC5.out.2.2.1
        have nB : wd.heap[w.heap.size]? = some (.cells #[.pointer none] 97 (0, 0)) := by rw [hd]; exact HC5.out.2.2.2.1
        clear hd k0 k1 k2 k3 k4 k5 q0 qf hBsz
        obtain ⟨q0, qf⟩ := Bu.one_cell nB
        have hBsz := lt_of_heap nB
        have hcsz := lt_of_heap nC
        have HC6 := Lib.hid (And.intro hbd (And.intro hgd (And.intro nC (And.intro nB HC5.out.2.2.2.2))))
        clear hbd hgd nC nB HC5
        go_wp2_with (go_at_call 41; fail)
        have mS : (((wd.setCell ⟨w.heap.size, 0, none⟩ (.pointer (some ⟨wd.heap.size + 1, 0, none⟩))).alloc (.cells (Array.replicate cp (.bool false)) 4)).alloc (.cells #[.int .i64 (p : Int), .slice (some ⟨wd.heap.size, 0, none⟩) cp cp, .int .i64 0] 101)).heap.size = wd.heap.size + 2 := by simp
        have mOld : ∀ k, k < wd.heap.size → k ≠ w.heap.size → (((wd.setCell ⟨w.heap.size, 0, none⟩ (.pointer (some ⟨wd.heap.size + 1, 0, none⟩))).alloc (.cells (Array.replicate cp (.bool false)) 4)).alloc (.cells #[.int .i64 (p : Int), .slice (some ⟨wd.heap.size, 0, none⟩) cp cp, .int .i64 0] 101)).heap[k]? = wd.heap[k]? := fun k h1 h2 => by rw [alloc_old _ _ _ (by simp; omega), alloc_old _ _ _ (by simp; omega), setCell_far _ _ _ _ h2]
        have mB : (((wd.setCell ⟨w.heap.size, 0, none⟩ (.pointer (some ⟨wd.heap.size + 1, 0, none⟩))).alloc (.cells (Array.replicate cp (.bool false)) 4)).alloc (.cells #[.int .i64 (p : Int), .slice (some ⟨wd.heap.size, 0, none⟩) cp cp, .int .i64 0] 101)).heap[w.heap.size]? = some (.cells #[.pointer (some ⟨wd.heap.size + 1, 0, none⟩)] 97 (0, 0)) := by rw [alloc_old _ _ _ (by simp; omega), alloc_old _ _ _ (by simp; omega)]; exact setCell_at wd w.heap.size 0 _ _ _ HC6.out.2.2.2.1
        have mU : (((wd.setCell ⟨w.heap.size, 0, none⟩ (.pointer (some ⟨wd.heap.size + 1, 0, none⟩))).alloc (.cells (Array.replicate cp (.bool false)) 4)).alloc (.cells #[.int .i64 (p : Int), .slice (some ⟨wd.heap.size, 0, none⟩) cp cp, .int .i64 0] 101)).heap[wd.heap.size]? = some (.cells (Array.replicate cp (.bool false)) 4 (0, 0)) := by rw [alloc_old _ _ _ (by simp), heapAlloc, if_pos (by simp)]
        have mP : (((wd.setCell ⟨w.heap.size, 0, none⟩ (.pointer (some ⟨wd.heap.size + 1, 0, none⟩))).alloc (.cells (Array.replicate cp (.bool false)) 4)).alloc (.cells #[.int .i64 (p : Int), .slice (some ⟨wd.heap.size, 0, none⟩) cp cp, .int .i64 0] 101)).heap[wd.heap.size + 1]? = some (.cells #[.int .i64 (p : Int), .slice (some ⟨wd.heap.size, 0, none⟩) cp cp, .int .i64 0] 101 (0, 0)) := by rw [heapAlloc, if_pos (by simp)]
        have mM : (((wd.setCell ⟨w.heap.size, 0, none⟩ (.pointer (some ⟨wd.heap.size + 1, 0, none⟩))).alloc (.cells (Array.replicate cp (.bool false)) 4)).alloc (.cells #[.int .i64 (p : Int), .slice (some ⟨wd.heap.size, 0, none⟩) cp cp, .int .i64 0] 101)).os = wd.os ∧ (((wd.setCell ⟨w.heap.size, 0, none⟩ (.pointer (some ⟨wd.heap.size + 1, 0, none⟩))).alloc (.cells (Array.replicate cp (.bool false)) 4)).alloc (.cells #[.int .i64 (p : Int), .slice (some ⟨wd.heap.size, 0, none⟩) cp cp, .int .i64 0] 101)).tape = wd.tape ∧ (((wd.setCell ⟨w.heap.size, 0, none⟩ (.pointer (some ⟨wd.heap.size + 1, 0, none⟩))).alloc (.cells (Array.replicate cp (.bool false)) 4)).alloc (.cells #[.int .i64 (p : Int), .slice (some ⟨wd.heap.size, 0, none⟩) cp cp, .int .i64 0] 101)).output = wd.output := ⟨rfl, rfl, rfl⟩
        generalize (((wd.setCell ⟨w.heap.size, 0, none⟩ (.pointer (some ⟨wd.heap.size + 1, 0, none⟩))).alloc (.cells (Array.replicate cp (.bool false)) 4)).alloc (.cells #[.int .i64 (p : Int), .slice (some ⟨wd.heap.size, 0, none⟩) cp cp, .int .i64 0] 101)) = W8 at *
        obtain ⟨px, hpx⟩ : ∃ px, px = wd.heap.size + 1 := ⟨_, rfl⟩
        obtain ⟨u, hu⟩ : ∃ u, u = wd.heap.size := ⟨_, rfl⟩
        rw [← hpx] at mB mP ⊢
        rw [← hu] at mU mP
        have hgd := HC6.out.2.1
        have hwr := HI.out.only.size
        have hds := hgd.size
        have hfar8 : ∀ k, k < W1.heap.size → k ≠ b → k ≠ w.heap.size → W8.heap[k]? = W1.heap[k]? := fun k h1 h2 h3 => (mOld k (by omega) h3).trans ((hgd.block k (by omega) h2).trans (HK.out k h3))
        have hnone : ∀ k, W1.heap.size ≤ k → own k = none := fun k hk2 => by
          cases e2 : own k with
          | none => rfl
          | some v => exact absurd (HX.out.1.fresh k (by rw [e2]; simp)) (by omega)
        have hown : ∀ k, own k ≠ none → k < W1.heap.size ∧ k ≠ w.heap.size := fun k h => ⟨HX.out.1.fresh k h, fun e2 => h (by rw [e2]; exact HX.out.2.2.2.1)⟩
        have hC8 : CacheAt W8 own c b C (emptyS C.sl) A cap R := HX.out.2.1.same (fun k h1 h2 h3 => hfar8 k h3 h2 (hown k h1).2) (fun _ _ _ => rfl) rfl
        have hpg : p < 1024 := by
          obtain ⟨_, _, _, _, hin, _⟩ := alloc_found HX.out.1.ok.st hgot
          have h1 : p + 2 ^ C.order ≤ 2 ^ N := hin.2.2
          have := two_le HX.out.1.ok.st.n10
          have := pow_pos2 C.order
          omega
        have hAc : A.map (·.block) ≠ some c := fun e2 => by have := hC8.ownG c e2; rw [hC8.ownC] at this; cases this
        have hins := insert_ok W8 c px p _ _ _ _ _ A cap R C.sl hC8.cell hC8.row hC8.len (len_ins HX.out.1.ok hgot hpg) HX.out.1.ok.asc (fun i q y hq hy => by
          obtain ⟨_, _, hs⟩ := hC8.slab i q y hq hy
          have := page_lt HX.out.1.ok y (List.mem_of_getElem? hy)
          exact ⟨(three_cells hs.cell).1, by omega⟩) (by omega) (three_cells mP).1 hAc
        have HIn := Lib.hid hins
        have HM8 := Lib.hid (And.intro mS (And.intro mOld (And.intro mB (And.intro mU (And.intro mP (And.intro mM (And.intro hfar8 (And.intro hnone (And.intro hown (And.intro hC8 (And.intro hpx hu)))))))))))
        clear mS mOld mB mU mP mM hfar8 hnone hown hC8 hins hAc hgd hwr hds hpx hu q0 qf
        refine HIn.out.mono ?_
        rintro e w9 ⟨rfl, g, cap', nC9, nR9, hg9, hf9, hos9, htp9, hou9, hs9⟩
        obtain ⟨mS, mOld, mB, mU, mP, mM, hfar8, hnone, hown, hC8, hpx, hu⟩ := HM8.out
        have hgd := HC6.out.2.1
        have hwr := HI.out.only.size
        have hds := hgd.size
        have nA : ∀ k, own k = none → A.map (·.block) ≠ some k := fun k hk2 e2 => by have := hC8.ownG k e2; rw [hk2] at this; cases this
        have opx : own px = none := hnone px (by omega)
        have ou : own u = none := hnone u (by omega)
        have oB : own w.heap.size = none := HX.out.2.2.2.1
        have hcw := (hown c (by rw [hC8.ownC]; simp)).1
        have hpc : px ≠ c := by omega
        have huc : u ≠ c := by omega
        have hup : u ≠ px := by omega
        have hcB' : c ≠ w.heap.size := hcB
        have hpB : px ≠ w.heap.size := by omega
        have huB : u ≠ w.heap.size := by omega
        have nP9 := (hf9 px (by omega) hpc (nA px opx)).trans mP
        have nU9 := (hf9 u (by omega) huc (nA u ou)).trans mU
        have nB9 := (hf9 w.heap.size (by omega) hcB'.symm (nA _ oB)).trans mB
        have hgx : g ≠ u ∧ g ≠ px ∧ g ≠ c ∧ g ≠ w.heap.size ∧ (own g = some 2 ∨ (own g = none ∧ W8.heap.size ≤ g)) := by
          rcases hg9 with h | h
          · have ho := hC8.ownG g h
            refine ⟨fun e2 => ?_, fun e2 => ?_, fun e2 => ?_, fun e2 => ?_, .inl ho⟩
            · rw [e2, ou] at ho; cases ho
            · rw [e2, opx] at ho; cases ho
            · rw [e2, hC8.ownC] at ho; cases ho
            · rw [e2, oB] at ho; cases ho
          · exact ⟨by omega, by omega, by omega, by omega, .inr ⟨hnone g (by omega), h⟩⟩
        obtain ⟨e, hee⟩ : ∃ e, e = emptyS C.sl := ⟨_, rfl⟩
        rw [← hee] at nC9
        have hel : e ≤ 64 := by rw [hee]; have := HX.out.1.ok.emp; have := HX.out.1.ok.kp; omega
        have hcp1 : 1 ≤ cp ∧ cp ≤ 128 := ⟨hcap'.1, hcap'.2.1⟩
        have rU : w9.ownsRow 0 4 1 (.slice (some ⟨u, 0, none⟩) (List.replicate cp false).length cp) (List.replicate cp false).length (bcells (List.replicate cp false)) :=
          row_make nU9 (by simp) (by simp [bcells]) (by simp) (by unfold maxLen; omega) (Nat.zero_le _)
        have nC11 : ((w9.setCell ⟨c, 5, none⟩ (.int .i64 ((e + 1 : Nat) : Int))).setCell ⟨c, 5, none⟩ (.int .i64 (e : Int))).heap[c]? = some (.cells #[.pointer (some ⟨b, 0, none⟩), .int .i64 (C.size : Int), .int .i64 (C.order : Int), .int .i64 (C.keep : Int), .slice (some ⟨g, 0, none⟩) (R.length + 1) cap', .int .i64 (e : Int)] 78 (0, 0)) := setCell_at _ c 5 _ _ (.int .i64 (e : Int)) (setCell_at w9 c 5 _ _ (.int .i64 ((e + 1 : Nat) : Int)) nC9)
        have rU11 := row_same rU (w' := ((w9.setCell ⟨c, 5, none⟩ (.int .i64 ((e + 1 : Nat) : Int))).setCell ⟨c, 5, none⟩ (.int .i64 (e : Int)))) fun k hk2 => (setCell_far _ _ _ _ (by injection hk2 with hk2; show k ≠ c; rw [← hk2]; exact huc)).trans (setCell_far _ _ _ _ (by injection hk2 with hk2; show k ≠ c; rw [← hk2]; exact huc))
        have nP11 : ((w9.setCell ⟨c, 5, none⟩ (.int .i64 ((e + 1 : Nat) : Int))).setCell ⟨c, 5, none⟩ (.int .i64 (e : Int))).heap[px]? = _ := (setCell_far _ _ _ _ hpc).trans ((setCell_far _ _ _ _ hpc).trans nP9)
        have rU12 := row_set rU11 (i := 0) (v := .bool true) (by simp; omega)
        have nC13 : ((((w9.setCell ⟨c, 5, none⟩ (.int .i64 ((e + 1 : Nat) : Int))).setCell ⟨c, 5, none⟩ (.int .i64 (e : Int))).setCell ⟨u, 0, none⟩ (.bool true)).setCell ⟨px, 2, none⟩ (.int .i64 1)).heap[c]? = _ := (setCell_far _ _ _ _ hpc.symm).trans ((setCell_far _ _ _ _ huc.symm).trans nC11)
        have rU13 := row_same rU12 (w' := ((((w9.setCell ⟨c, 5, none⟩ (.int .i64 ((e + 1 : Nat) : Int))).setCell ⟨c, 5, none⟩ (.int .i64 (e : Int))).setCell ⟨u, 0, none⟩ (.bool true)).setCell ⟨px, 2, none⟩ (.int .i64 1))) fun k hk2 => setCell_far _ _ _ _ (by injection hk2 with hk2; show k ≠ px; rw [← hk2]; exact hup)
        have nP13 := setCell_at (((w9.setCell ⟨c, 5, none⟩ (.int .i64 ((e + 1 : Nat) : Int))).setCell ⟨c, 5, none⟩ (.int .i64 (e : Int))).setCell ⟨u, 0, none⟩ (.bool true)) px 2 _ _ (.int .i64 1) ((setCell_far _ _ _ _ hup.symm).trans nP11)
        have hadr := address_ok ((((w9.setCell ⟨c, 5, none⟩ (.int .i64 ((e + 1 : Nat) : Int))).setCell ⟨c, 5, none⟩ (.int .i64 (e : Int))).setCell ⟨u, 0, none⟩ (.bool true)).setCell ⟨px, 2, none⟩ (.int .i64 1)) c px C.size p 0 (six_cells nC13).2.1 (three_cells nP13).1 HX.out.1.ok.sz.2.1 (by omega) (by omega)
        rw [Nat.zero_mul, Nat.add_zero] at hadr
        have hidx := index_ok ((w9.setCell ⟨c, 5, none⟩ (.int .i64 ((e + 1 : Nat) : Int))).setCell ⟨c, 5, none⟩ (.int .i64 (e : Int))) u cp (List.replicate cp false) rU11
        have hf0 : freeI (List.replicate cp false) = 0 := by
          obtain ⟨q, rfl⟩ : ∃ q, cp = q + 1 := ⟨cp - 1, by omega⟩
          rfl
        rw [hf0, if_pos (by simp; omega), List.length_replicate] at hidx
        have HAd := Lib.hid hadr
        have HId := Lib.hid hidx
        obtain ⟨_, _, _, _, _, k5, _, k5f⟩ := six_cells nC9
        obtain ⟨p0, p1, p2, p2f⟩ := three_cells nP9
        obtain ⟨bx9, _⟩ := Bu.one_cell nB9
        have u0 : w9.cell? ⟨u, 0, none⟩ = some (.bool false) := row_cell rU (i := 0) (v := .bool false) (by rw [bcells_get, List.getElem?_replicate, if_pos (by omega)]; rfl)
        have u0f := row_frozen rU 0
        have e0 : (0 : Int) < (cp : Int) := by omega
        have hw1 : IntKind.i64.wrap ((e : Int) + 1) = ((e + 1 : Nat) : Int) := by rw [IntWalk.i64_in _ (by omega)]; rfl
        have hw2 : IntKind.i64.wrap (((e + 1 : Nat) : Int) - 1) = (e : Int) := by rw [IntWalk.i64_in _ (by omega)]; omega
        have HT := Lib.hid (And.intro nC13 (And.intro rU13 (And.intro nP13 (And.intro nR9 (And.intro hgx (And.intro hf9 (And.intro hos9 (And.intro htp9 (And.intro hou9 (And.intro hs9 (And.intro hee (And.intro opx (And.intro ou (And.intro nA (And.intro hup hcB)))))))))))))))
        have hcB2 := hcB'
        clear mS mOld mB mU mP mM hfar8 hnone hown hC8 hpx hu hgd hwr hds nA opx ou oB hcw nP9 nU9 nB9 hgx hee rU nC11 rU11 nP11 rU12 nC13 rU13 nP13 hadr hidx hf0 nC9 nR9 hg9 hf9 hos9 htp9 hou9 hs9 hcB' hcap'
        go_wp2_with (first
          | (go_at_call 42; refine HId.out.mono ?_; rintro e w' ⟨rfl, rfl⟩)
          | (go_at_call 43; refine HAd.out.mono ?_; rintro e w' ⟨rfl, d, rfl⟩))
        go_ret2
        obtain ⟨nC13, rU13, nP13, nR9, hgx, hf9, hos9, htp9, hou9, hs9, hee, opx, ou, nA, hup', hcB'⟩ := HT.out
        obtain ⟨mS, mOld, mB, mU, mP, mM, hfar8, hnone, hown, hC8, hpx, hu⟩ := HM8.out
        have hgd := HC6.out.2.1
        have hwr := HI.out.only.size
        have hds := hgd.size
        have hw1s : W1.heap.size = w.heap.size + 1 := hs1
        have hfar : ∀ k, k ≠ c → k ≠ px → k ≠ u → (((((w9.setCell ⟨c, 5, none⟩ (.int .i64 ((e + 1 : Nat) : Int))).setCell ⟨c, 5, none⟩ (.int .i64 (e : Int))).setCell ⟨u, 0, none⟩ (.bool true)).setCell ⟨px, 2, none⟩ (.int .i64 1)).drewN d).heap[k]? = w9.heap[k]? := fun k h1 h2 h3 => (setCell_far _ _ _ _ h2).trans ((setCell_far _ _ _ _ h3).trans ((setCell_far _ _ _ _ h1).trans (setCell_far _ _ _ _ h1)))
        have hsz : (((((w9.setCell ⟨c, 5, none⟩ (.int .i64 ((e + 1 : Nat) : Int))).setCell ⟨c, 5, none⟩ (.int .i64 (e : Int))).setCell ⟨u, 0, none⟩ (.bool true)).setCell ⟨px, 2, none⟩ (.int .i64 1)).drewN d).heap.size = w9.heap.size := by show ((((w9.setCell ⟨c, 5, none⟩ (.int .i64 ((e + 1 : Nat) : Int))).setCell ⟨c, 5, none⟩ (.int .i64 (e : Int))).setCell ⟨u, 0, none⟩ (.bool true)).setCell ⟨px, 2, none⟩ (.int .i64 1)).heap.size = _; rw [setCell_size, setCell_size, setCell_size, setCell_size]
        have hcpe := HC6.out.2.2.2.2
        have hus : true :: List.replicate (capa C.size C.order - 1) false = (List.replicate cp false).set 0 true := by
          rw [← hcpe]
          obtain ⟨q, hq⟩ : ∃ q, cp = q + 1 := ⟨cp - 1, by omega⟩
          rw [hq]; rfl
        have hul : (true :: List.replicate (capa C.size C.order - 1) false).length = cp := by rw [hus, List.length_set, List.length_replicate]
        have hcnt : (true :: List.replicate (capa C.size C.order - 1) false).count true = 1 := by rw [List.count_cons_self, List.count_replicate]; rfl
        have hemp : emptyS (insS C.sl ⟨p, true :: List.replicate (capa C.size C.order - 1) false⟩) = e := by rw [hee]; exact empty_ins _ (by show List.count true _ ≠ 0; rw [hcnt]; decide) _
        have hC2 := cache_ins (W' := ((((w9.setCell ⟨c, 5, none⟩ (.int .i64 ((e + 1 : Nat) : Int))).setCell ⟨c, 5, none⟩ (.int .i64 (e : Int))).setCell ⟨u, 0, none⟩ (.bool true)).setCell ⟨px, 2, none⟩ (.int .i64 1)).drewN d) (us := true :: List.replicate (capa C.size C.order - 1) false) (m' := 1) (ucap := cp) (e' := emptyS (insS C.sl ⟨p, true :: List.replicate (capa C.size C.order - 1) false⟩)) hC8 (fresh_page HX.out.1.ok hgot) ou opx (hgx.2.2.2.2.imp id (·.1)) hup' hgx.1 hgx.2.1 (by rw [hemp]; exact nC13)
          (row_same nR9 fun k hk2 => (hfar k (by injection hk2 with hk2; rw [← hk2]; exact hgx.2.2.1) (by injection hk2 with hk2; rw [← hk2]; exact hgx.2.1) (by injection hk2 with hk2; rw [← hk2]; exact hgx.1)))
          (by rw [hul]; exact nP13) (by rw [hul, hus]; have := rU13; rw [List.length_replicate] at this; rw [show bcells ((List.replicate cp false).set 0 true) = (bcells (List.replicate cp false)).set 0 (.bool true) from List.map_set]; exact row_same this fun _ _ => rfl) hcnt.symm
          (fun k h1 h2 h3 h4 => (hfar k h2 (fun e2 => h1 (by rw [e2]; exact opx)) (fun e2 => h1 (by rw [e2]; exact ou))).trans (hf9 k h4 h2 h3))
        have hokN := ok_ins (us := true :: List.replicate (capa C.size C.order - 1) false) HX.out.1.ok hgot (by rw [hul]; exact hcpe) (by rw [hcnt]; decide)
        have hob := hC8.ownB
        have hbl := (hown b (by rw [hob]; simp)).1
        have hlast : ∀ k, k < w.heap.size → own k = none → (((((w9.setCell ⟨c, 5, none⟩ (.int .i64 ((e + 1 : Nat) : Int))).setCell ⟨c, 5, none⟩ (.int .i64 (e : Int))).setCell ⟨u, 0, none⟩ (.bool true)).setCell ⟨px, 2, none⟩ (.int .i64 1)).drewN d).heap[k]? = w.heap[k]? := fun k hk2 hn => by
          rw [hfar k (fun e2 => by rw [e2, hC8.ownC] at hn; cases hn) (by omega) (by omega), hf9 k (by omega) (fun e2 => by rw [e2, hC8.ownC] at hn; cases hn) (nA k hn), hfar8 k (by omega) (fun e2 => by rw [e2, hob] at hn; cases hn) (by omega)]
          exact HX.out.2.2.1.block k hk2
        have hgl := (nR9.lt g rfl).2
        have hsz' : w9.heap.size ≤ (((((w9.setCell ⟨c, 5, none⟩ (.int .i64 ((e + 1 : Nat) : Int))).setCell ⟨c, 5, none⟩ (.int .i64 (e : Int))).setCell ⟨u, 0, none⟩ (.bool true)).setCell ⟨px, 2, none⟩ (.int .i64 1)).drewN d).heap.size := Nat.le_of_eq hsz.symm
        refine ⟨rfl, ownI own px u g, ⟨⟨some ⟨g, 0, none⟩, cap', _, hC2⟩, ?_, hokN, fun k hk2 => ?_⟩, ?_⟩
        · refine HC6.out.1.keep ?_
          have hAb : A.map (·.block) ≠ some b := fun e2 => by have := hC8.ownG b e2; rw [hob] at this; cases this
          exact (hfar b hcb.symm (by omega) (by omega)).trans ((hf9 b (by omega) hcb.symm hAb).trans (mOld b (by omega) hbB))
        · unfold ownI at hk2
          split at hk2
          · next e2 => rw [e2]; exact Nat.lt_of_lt_of_le (by omega) hsz'
          · split at hk2
            · next e2 => rw [e2]; exact Nat.lt_of_lt_of_le (by omega) hsz'
            · split at hk2
              · next e2 => rw [e2]; exact Nat.lt_of_lt_of_le hgl hsz'
              · have := (hown k hk2).1
                exact Nat.lt_of_lt_of_le (by omega) hsz'
        · refine ⟨?_, ?_, ?_, Nat.le_trans (show w.heap.size ≤ w9.heap.size by omega) hsz', hlast, fun k hk2 => ?_, fun k hk2 => ?_⟩
          · exact hos9.trans (mM.1.trans (hgd.os.trans (HI.out.only.os.trans HX.out.2.2.1.os)))
          · exact htp9.trans (mM.2.1.trans (hgd.tape.trans (HI.out.only.tape.trans HX.out.2.2.1.tape)))
          · exact hou9.trans (mM.2.2.trans (hgd.output.trans (HI.out.only.output.trans HX.out.2.2.1.output)))
          · unfold ownI
            rw [if_neg (by omega), if_neg (by omega)]
            split
            · next e2 =>
              subst e2
              rcases hgx.2.2.2.2 with h | ⟨_, h⟩
              · exact h.symm
              · omega
            · rfl
          · unfold ownI at hk2
            split at hk2
            · next e2 => exact .inr ⟨by omega, Nat.lt_of_lt_of_le (by omega) hsz'⟩
            · split at hk2
              · next e2 => exact .inr ⟨by omega, Nat.lt_of_lt_of_le (by omega) hsz'⟩
              · split at hk2
                · next e2 =>
                  rw [e2]
                  rcases hgx.2.2.2.2 with h | ⟨_, h⟩
                  · exact .inl (by rw [h]; simp)
                  · exact .inr ⟨by omega, Nat.lt_of_lt_of_le hgl hsz'⟩
                · exact .inl hk2
end Sl
end Go.Proofs.Ytlknhbcambdccaa
namespace Go.Proofs.Ytlknhbcambdccaa
open Go.RowKit
namespace Sl
open Bu

set_option maxRecDepth 100000 in
set_option maxHeartbeats 4000000 in
theorem sizes_ok (w : World) (size order keep : Int) :
    Calls Try.prog 46 #[.int .i64 size, .int .i64 order, .int .i64 keep] w fun e w' => e = .returned (.bool (sizesB size order keep)) ∧ w = w' := by
  obtain ⟨r, hr⟩ : ∃ r, r = sizesB size order keep := ⟨_, rfl⟩
  rw [← hr]
  have HR := Lib.hid hr
  clear hr
  by_cases h8 : 8 ≤ size
  · by_cases h1024 : size ≤ 1024
    · by_cases hm : size % 8 = 0
      · have tm : ((size % 8 : Int) == 0) = true := by simp [hm]
        by_cases ho : 0 ≤ order
        · by_cases ho4 : order ≤ 4
          · by_cases hk : 0 ≤ keep
            · by_cases hk64 : keep ≤ 64
              · obtain ⟨o, rfl⟩ := Int.eq_ofNat_of_zero_le ho
                have hsh := shl_w64 o (by omega)
                obtain ⟨M, hM⟩ : ∃ M : Nat, M = 64 * 2 ^ o := ⟨_, rfl⟩
                rw [← hM] at hsh
                by_cases hf : size ≤ (M : Int)
                · have HM := Lib.hid (And.intro hM hm)
                  clear hM hm
                  go_enter Try.func46, Try.ntmps46
                  go_wp2
                  go_ret
                  refine ⟨?_, rfl⟩
                  rw [HR.out]
                  unfold sizesB
                  rw [Int.toNat_natCast, ← HM.out.1, decide_eq_true ⟨h8, h1024, HM.out.2, ho, ho4, hk, hk64, hf⟩]
                  rfl
                · have HM := Lib.hid (And.intro hM hm)
                  clear hM hm
                  go_enter Try.func46, Try.ntmps46
                  go_wp2
                  go_ret
                  refine ⟨?_, rfl⟩
                  rw [HR.out]
                  unfold sizesB
                  rw [Int.toNat_natCast, ← HM.out.1, decide_eq_false (fun h => by have := h.2.2.2.2.2.2.2; omega)]
                  rfl
              · have HM := Lib.hid hm
                clear hm
                go_enter Try.func46, Try.ntmps46
                go_wp2
                go_ret
                refine ⟨?_, rfl⟩
                rw [HR.out]
                unfold sizesB
                rw [decide_eq_false (fun h => by have := h.2.2.2.2.2.2.1; omega)]
                rfl
            · have HM := Lib.hid hm
              clear hm
              go_enter Try.func46, Try.ntmps46
              go_wp2
              go_ret
              refine ⟨?_, rfl⟩
              rw [HR.out]
              unfold sizesB
              rw [decide_eq_false (fun h => by have := h.2.2.2.2.2.1; omega)]
              rfl
          · have HM := Lib.hid hm
            clear hm
            go_enter Try.func46, Try.ntmps46
            go_wp2
            go_ret
            refine ⟨?_, rfl⟩
            rw [HR.out]
            unfold sizesB
            rw [decide_eq_false (fun h => by have := h.2.2.2.2.1; omega)]
            rfl
        · have HM := Lib.hid hm
          clear hm
          go_enter Try.func46, Try.ntmps46
          go_wp2
          go_ret
          refine ⟨?_, rfl⟩
          rw [HR.out]
          unfold sizesB
          rw [decide_eq_false (fun h => by have := h.2.2.2.1; omega)]
          rfl
      · have tm : ((size % 8 : Int) == 0) = false := by rw [beq_eq_false_iff_ne]; exact hm
        have HM := Lib.hid hm
        clear hm
        go_enter Try.func46, Try.ntmps46
        go_wp2
        go_ret
        refine ⟨?_, rfl⟩
        rw [HR.out]
        unfold sizesB
        rw [decide_eq_false (fun h => HM.out h.2.2.1)]
        rfl
    · go_enter Try.func46, Try.ntmps46
      go_wp2
      go_ret
      refine ⟨?_, rfl⟩
      rw [HR.out]
      unfold sizesB
      rw [decide_eq_false (fun h => by have := h.2.1; omega)]
      rfl
  · go_enter Try.func46, Try.ntmps46
    go_wp2
    go_ret
    refine ⟨?_, rfl⟩
    rw [HR.out]
    unfold sizesB
    rw [decide_eq_false (fun h => by have := h.1; omega)]
    rfl

/-- What New leaves. -/
def NewC (w : World) (b : Nat) (N : Nat) (L : List Blk) (size order keep : Int) (e : Ending) (w' : World) : Prop :=
  if sizesB size order keep = true then ∃ (c s o k : Nat) (own : Own?), size = (s : Int) ∧ order = (o : Int) ∧ keep = (k : Int) ∧ e = .returned (.tuple #[.pointer (some ⟨c, 0, none⟩), .int .i64 0]) ∧ Held w' own c b ⟨s, o, k, []⟩ N L ∧
      (∀ z, z < w.heap.size → z ≠ b → own z = none) ∧ w.heap.size ≤ c ∧ Below w.heap.size w w'
  else e = .returned (.tuple #[.pointer none, .int .i64 7]) ∧ Below w.heap.size w w'

set_option maxRecDepth 100000 in
set_option maxHeartbeats 4000000 in
theorem newC_ok (w : World) (b : Nat) (N : Nat) (L : List Blk) (size order keep : Int) (h : BuL w b N L) :
    Calls Try.prog 16 #[.pointer (some ⟨b, 0, none⟩), .int .i64 size, .int .i64 order, .int .i64 keep] w fun e w' => NewC w b N L size order keep e w' := by
  have hbk := blocks_ok w b N L h
  have hsz := fun W => sizes_ok W size order keep
  have HB := Lib.hid hbk
  have HX := Lib.hid h
  clear hbk h
  cases hv : sizesB size order keep with
  | false =>
    simp only [hv] at hsz
    have HS := Lib.hid hsz
    have HV := Lib.hid hv
    clear hsz hv
    go_enter Try.func16, Try.ntmps16
    go_wp2_with (first | (go_at_call 45; refine HB.out.mono ?_; rintro e w1 ⟨⟨A, c, rfl, _⟩, hb⟩; have H1 := Lib.hid hb; clear hb) | (go_at_call 46; refine (HS.out _).mono ?_; rintro e w' ⟨rfl, rfl⟩))
    go_ret2
    unfold NewC
    rw [HV.out, if_neg (by simp)]
    exact ⟨rfl, H1.out⟩
  | true =>
    simp only [hv] at hsz
    have HS := Lib.hid hsz
    have HV := Lib.hid hv
    clear hsz hv
    go_enter Try.func16, Try.ntmps16
    go_wp2_with (first | (go_at_call 45; refine HB.out.mono ?_; rintro e w1 ⟨⟨A, c, rfl, _⟩, hb⟩; have H1 := Lib.hid hb; clear hb) | (go_at_call 46; refine (HS.out _).mono ?_; rintro e w' ⟨rfl, rfl⟩))
    go_ret2
    unfold NewC
    rw [HV.out, if_pos rfl]
    have hv := HV.out
    unfold sizesB at hv
    rw [decide_eq_true_eq] at hv
    obtain ⟨h1, h2, h3, h4, h5, h6, h7, h8⟩ := hv
    obtain ⟨s, rfl⟩ := Int.eq_ofNat_of_zero_le (show 0 ≤ size by omega)
    obtain ⟨o, rfl⟩ := Int.eq_ofNat_of_zero_le h4
    obtain ⟨k, rfl⟩ := Int.eq_ofNat_of_zero_le h6
    rw [Int.toNat_natCast] at h8
    have hb1 := HX.out.lt
    have hs1 := H1.out.size
    have hbW := H1.out.alloc hs1 (.cells #[.pointer (some ⟨b, 0, none⟩), .int .i64 (s : Int), .int .i64 (o : Int), .int .i64 (k : Int), .slice none 0 0, .int .i64 0] 78)
    refine ⟨w1.heap.size, s, o, k, fun z => if z = w1.heap.size then some 0 else if z = b then some 1 else none, rfl, rfl, rfl, rfl, ⟨⟨none, 0, [], ⟨by simp, by rw [if_neg (by omega), if_pos rfl], by rw [heapAlloc, if_pos rfl]; rfl, World.ownsRow_nil _ _ _ _, fun g hg => (by cases hg), rfl, List.nodup_nil, fun i p x hp _ => by simp at hp⟩⟩, HX.out.keep (hbW.block b hb1),
      ⟨show 8 ≤ s ∧ s ≤ 1024 ∧ s % 8 = 0 from ⟨by omega, by omega, by omega⟩, show o ≤ 4 from by omega, show k ≤ 64 from by omega, show s ≤ 64 * 2 ^ o from by omega, HX.out.2, List.Pairwise.nil, fun x hx => (by cases hx), fun x hx => (by cases hx), Nat.zero_le _⟩, fun z hz => ?_⟩, fun z hz hne => ?_, hs1, hbW⟩
    · have hz : (if z = w1.heap.size then some 0 else if z = b then some 1 else none) ≠ (none : Option Nat) := hz
      rw [World.size_alloc]
      split at hz
      · omega
      · split at hz
        · omega
        · exact absurd rfl hz
    · show (if z = w1.heap.size then some 0 else if z = b then some 1 else none) = (none : Option Nat)
      rw [if_neg (by omega), if_neg hne]
end Sl
end Go.Proofs.Ytlknhbcambdccaa
