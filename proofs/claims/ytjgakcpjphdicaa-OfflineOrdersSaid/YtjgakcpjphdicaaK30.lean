/- Quick. Ranges over an iterator that reads what the body writes. -/
import Derived.Test.YtjgakcpjphdicaaK26
import Derived.Test.YtjgakcpjphdicaaK29
import Derived.Test.YtjgakcpjphdicaaK0
namespace Go.Proofs.Ytjgakcpjphdicaa
open Go.RowKit Go.Shelf
namespace Of

/-- What the sort of Quick is asked. -/
def StabS (L : List OB) : Prop := ∀ (w : World) (bp gr lc : Nat) (lA : Option Addr), w.cell? ⟨bp, 0, none⟩ = some (.slice lA L.length lc) → OBAt w lA lc L → RowI 3 w gr (zs (List.range L.length)) → bp ≠ gr → (0 < L.length → ∀ g, lA.map (·.block) = some g → g ≠ gr) →
    Calls Try.prog 69 #[.slice (some ⟨gr, 0, none⟩) L.length L.length, .int .i64 (L.length : Int), .func (.func 50) #[] #[.pointer (some ⟨bp, 0, none⟩)]] w fun e w' => e = .returned (.tuple #[]) ∧ QSorted w gr L w'
theorem stabS_small {L : List OB} (h : L.length < 20) : StabS L := fun w bp gr lc lA h1 h2 h3 h4 h5 => stab_ok w bp gr lc lA L h1 h2 h3 h h4 h5
theorem sort_stable {L : List OB} (hS : StabS L) (w : World) (bp gr lc : Nat) (lA : Option Addr) (h1 : w.cell? ⟨bp, 0, none⟩ = some (.slice lA L.length lc)) (h2 : OBAt w lA lc L) (h3 : RowI 3 w gr (zs (List.range L.length))) (h4 : bp ≠ gr) (h5 : 0 < L.length → ∀ g, lA.map (·.block) = some g → g ≠ gr) :
    Calls Try.prog 49 #[.slice (some ⟨gr, 0, none⟩) L.length L.length, .func (.func 50) #[] #[.pointer (some ⟨bp, 0, none⟩)]] w fun e w' => e = .returned (.tuple #[]) ∧ QSorted w gr L w' := by
  have h := hS w bp gr lc lA h1 h2 h3 h4 h5
  have H := Lib.hid h
  clear h h1 h2 h3 h4 h5
  go_enter Try.func49, Try.ntmps49
  go_wp2_with (go_at_call 69; refine H.out.mono ?_; rintro e w1 ⟨rfl, hs⟩; have HS := Lib.hid hs; clear hs)
  go_end0
  exact ⟨rfl, HS.out⟩

/-- What Quick says. -/
def QuickOut (w : World) (L : List OB) (e : Ending) (w' : World) : Prop := (checkV L ≠ 0 → LaidNo w (checkV L) e w') ∧ (checkV L = 0 → Laid w L (qord L L.length) e w')
set_option maxRecDepth 100000 in
set_option maxHeartbeats 4000000 in
theorem Quick_ok (w : World) (lA : Option Addr) (lc : Nat) (L : List OB) (hl : OBAt w lA lc L) (hS : checkV L = 0 → StabS L) :
    Calls Try.prog 23 #[.slice lA L.length lc] w (QuickOut w L) := by
  have hcap := hl.2.1
  have hlc := hl.1
  unfold maxLen at hcap
  have hb0 : Below w.heap.size w (w.alloc (.cells #[.slice lA L.length lc] 22)) := below_box _ _
  have hh0 : (w.alloc (.cells #[.slice lA L.length lc] 22)).heap[w.heap.size]? = some (.cells #[.slice lA L.length lc] 22 (0, 0)) := by rw [heapAlloc, if_pos rfl]
  have hs0 : (w.alloc (.cells #[.slice lA L.length lc] 22)).heap.size = w.heap.size + 1 := by simp
  have hl0 := hl.below hb0 (Nat.le_refl _)
  have hck := check_ok lA lc L _ hl0
  have c0 := (one_cell hh0).1
  have H0 := Lib.hid (And.intro hb0 (And.intro hs0 (And.intro hl0 (one_cell hh0).1)))
  by_cases hv : checkV L = 0
  · have hL := (checkV_ok L).1 hv
    have hlen := hL.1
    have hst := hS hv
    rw [hv] at hck
    have HC := Lib.hid hck
    have fin : ∀ (e : Ending) (w' : World), Laid w L (qord L L.length) e w' → QuickOut w L e w' := fun e w' h => ⟨fun h2 => absurd hv h2, fun _ => h⟩
    have HFIN := Lib.hid fin
    have HN := Lib.hid (fun (w2 : World) => numbers_ok L.length (by omega) w2)
    have HX := Lib.hid (And.intro hl (And.intro hL hst))
    clear hck fin hl hL hst hl0 hb0 hh0 hs0 hS
    go_enter Try.func23, Try.ntmps23
    go_upto_region 1 with (fail)
    generalize w.alloc (.cells #[.slice lA L.length lc] 22) = W0 at *
    obtain ⟨bp, hbp⟩ : ∃ z, z = w.heap.size := ⟨_, rfl⟩
    rw [← hbp] at H0 c0 ⊢
    have HBP := Lib.hid hbp
    clear hbp
    go_upto_region 4 with (go_at_call 27; refine HC.out.mono ?_; rintro e w1 ⟨rfl, hb1⟩; have HB1 := Lib.hid hb1; clear hb1)
    have c1 := cell_keep HB1.out c0
    clear c0
    go_upto_region 5 with (go_at_call 40; refine (HN.out w1).mono ?_; rintro e w2 ⟨gr, rfl, h4, h5, hb4⟩; have H4 := Lib.hid (And.intro h4 (And.intro h5 hb4)); clear h4 h5 hb4)
    have c2 := cell_keep H4.out.2.2 c1
    have hs1 := HB1.out.size
    have hsz := H0.out.2.1
    have hgr := H4.out.2.1
    have hbp := HBP.out
    have hb02 : Below W0.heap.size W0 w2 := HB1.out.trans (H4.out.2.2.mono hs1)
    have hsort := sort_stable HX.out.2.2 w2 bp gr lc lA c2 (H0.out.2.2.1.below hb02 (Nat.le_refl _)) H4.out.1 (by omega) (fun hp g hg => by
      obtain ⟨g', o', hA, hg'⟩ := HX.out.1.head hp
      have e : g' = g := by rw [hA] at hg; injection hg
      omega)
    have HS := Lib.hid hsort
    have hw2 : Below w.heap.size w w2 := by rw [← hbp]; exact H0.out.1.trans (hb02.mono (by omega))
    have HW2 := Lib.hid hw2
    have hne : bp ≠ gr := by omega
    have hbp2 : bp < w2.heap.size := by have := hb02.size; omega
    have hgrw : w.heap.size ≤ gr := by omega
    clear hsort hb02 hs1 hsz hbp hw2 hgr c1
    go_upto_region 6 with (go_at_call 49; refine HS.out.mono ?_; rintro e w3 ⟨rfl, hq1, hq2⟩; have H5 := Lib.hid (And.intro hq1 hq2); clear hq1 hq2)
    have c3 : w3.cell? ⟨bp, 0, none⟩ = some (.slice lA L.length lc) := (World.cell?_of_block (a := ⟨bp, 0, none⟩) (H5.out.2.block bp hbp2 hne)).trans c2
    have hw3 : Below w.heap.size w w3 := ⟨H5.out.2.os.trans HW2.out.os, H5.out.2.tape.trans HW2.out.tape, H5.out.2.output.trans HW2.out.output, Nat.le_trans HW2.out.size H5.out.2.size, fun k hk => (H5.out.2.block k (by have := HW2.out.size; omega) (by omega)).trans (HW2.out.block k hk)⟩
    obtain ⟨hqo, hql⟩ := qord_ord L L.length
    have hzl : (zs (qord L L.length)).length = L.length := by rw [List.length_map]; exact hql
    have hia := H5.out.1.at (by rw [hzl]; unfold maxLen; omega)
    rw [hzl] at hia
    have hly := lay_ok w3 lA lc L (some ⟨gr, 0, none⟩) L.length (qord L L.length) (HX.out.1.below hw3 (Nat.le_refl _)) hia HX.out.2.1 hqo
    rw [hql] at hly
    have HL := Lib.hid (And.intro hly hw3)
    clear hly hw3 hqo hql hzl hia c2 hne hbp2
    go_wp2_with (go_at_call 35; refine HL.out.1.mono ?_; rintro e w4 ⟨ga, rfl, h1, h2, h3⟩; have H6 := Lib.hid (And.intro h1 (And.intro h2 h3)); clear h1 h2 h3)
    go_ret3
    exact HFIN.out _ _ ⟨ga, rfl, H6.out.1, Nat.le_trans HL.out.2.size H6.out.2.1, HL.out.2.trans (H6.out.2.2.mono HL.out.2.size)⟩
  · have fin : ∀ (e : Ending) (w' : World), LaidNo w (checkV L) e w' → QuickOut w L e w' := fun e w' h => ⟨fun _ => h, fun h2 => absurd h2 hv⟩
    have HFIN := Lib.hid fin
    have HC := Lib.hid hck
    clear hck fin hl hl0 hb0 hh0 hs0 hS
    generalize checkV L = e0 at *
    go_enter Try.func23, Try.ntmps23
    go_upto_region 1 with (fail)
    generalize w.alloc (.cells #[.slice lA L.length lc] 22) = W0 at *
    go_wp2_with (go_at_call 27; refine HC.out.mono ?_; rintro e w1 ⟨rfl, hb1⟩; have HB1 := Lib.hid hb1; clear hb1)
    go_ret3
    exact HFIN.out _ _ ⟨rfl, H0.out.1.trans (HB1.out.mono H0.out.1.size)⟩
end Of
end Go.Proofs.Ytjgakcpjphdicaa
namespace Go.Proofs.Ytjgakcpjphdicaa
open Go.RowKit Go.Shelf
namespace Of
variable {F : Fence} {n : Nat} {P : Program}

/-- An iterator's contract: it reads what D says, in the blocks of R; whatever the caller owns it leaves as it is; all else that lay stays as it lay. -/
def SeqB {α : Type} (F : Fence) (n : Nat) (P : Program) (g : Nat) (lb : Array Value) (encs : α → Array Value) (D : World → Prop) (E : List α → World → Prop) (R : Nat → Prop) (S Sp : List α → Prop) (A : List α → α → World → Prop) : Prop :=
  ∀ (l : Nat) (J Jx : Ow → List α → World → Prop) (own0 : Ow) (W : World), D W → (∀ k, R k → own0 k = none) → (∀ own pre W1, J own pre W1 → E pre W1) → Fresh own0 W → Framed J → Framed Jx →
    (∀ own pre x W1, J own pre W1 → Fresh own W1 → A pre x W1 → YieldAt F (n - 1) P l (encs x) W1 fun e W' =>
      ∃ own', Keeps own own' W1 W' ∧ ((e = .returned (.bool true) ∧ J own' (pre ++ [x]) W') ∨ (e = .returned (.bool false) ∧ Jx own' (pre ++ [x]) W'))) →
    J own0 [] W →
    CallsIn F n P g (#[.func (.yield l) #[] #[]] ++ lb) W fun e W' => (∃ v, e = .returned v) ∧ ∃ own', Keeps own0 own' W W' ∧ ((∃ xs, S xs ∧ J own' xs W') ∨ (∃ pre, Sp pre ∧ Jx own' pre W'))

theorem rangeB {α : Type} {g : Operand} {ps : Array Tmp} {assign body : Code} {Q : Exit → Act → World → Prop} {a : Act} {w : World}
    (hro : F.round = none) (h1 : 1 ≤ n) {gf : Nat} {lb : Array Value} (hg : a.eval g = .func (.func gf) #[] lb) (hFg : F.fn gf) (eg : ∀ args w, (callFunc gf args).run P w = .ok (.enter gf args) w)
    {encs : α → Array Value} {D : World → Prop} {E : List α → World → Prop} {R : Nat → Prop} {S Sp : List α → Prop} {A : List α → α → World → Prop} (hseq : SeqB F (n - 1) P gf lb encs D E R S Sp A)
    (own0 : Ow) (hf0 : Fresh own0 w) (hD : ∀ W, Below w.heap.size w W → D W) (hR : ∀ k, R k → own0 k = none ∧ k < w.heap.size) (hps : ∀ x, (encs x).size = ps.size)
    (I : Ow → List α → World → Prop) (Ix : Code → Ow → List α → World → Prop) (hE : ∀ own pre W, I own pre W → E pre W) (hA : ∀ pre x W r L o, W.heap[r]? = some (.loop L) → A pre x W → A pre x (W.putObj r o)) (hI : Framed I) (hIx : ∀ c, Framed (Ix c)) (h0 : I own0 [] w) (a₁ : α → Act)
    (hassign : ∀ (l : Nat) (x : α) (W : World) (K : Act → World → Prop), K (a₁ x) W →
      assign.wpIn (F.inRound l) (n - 1 - 1) P (Exit.then K (fun _ _ _ => False)) { tmps := (ps.zip (encs x)).foldl (fun t (p, v) => t.setIfInBounds p v) a.tmps, defers := [] } W)
    (hbody : ∀ (l : Nat) (own : Ow) (pre : List α) (x : α) (W : World), I own pre W → Fresh own W → A pre x W → body.wpIn (F.inRound l) (n - 1 - 1) P (postY I Ix own (pre ++ [x]) W) (a₁ x) W)
    (hdone : ∀ (own : Ow) (xs : List α) (W : World), S xs → I own xs W → Keeps own0 own w W → own w.heap.size = none → W.heap[w.heap.size]? = some (.deferred (some [])) → Q .normal { a with defers := { target := .collected w.heap.size, args := #[] } :: a.defers } W)
    (hstop : ∀ (own : Ow) (c : Code) (pre : List α) (W : World), Sp pre → Ix c own pre W → Keeps own0 own w W → own w.heap.size = none → W.heap[w.heap.size]? = some (.deferred (some [])) → c.wpIn F n P Q { a with defers := { target := .collected w.heap.size, args := #[] } :: a.defers } W) :
    (Code.rangeFunc g ps assign body).wpIn F n P Q a w := by
  refine wpIn_rangeFunc ?_
  intro fn hfn
  rw [hro]
  obtain ⟨rec, hrec⟩ : ∃ rec : LoopState → Option Code → Loop, rec = fun st pe => { state := st, pending := pe, fn, tmps := a.tmps, params := ps, assign, body, defers := w.heap.size } := ⟨_, rfl⟩
  obtain ⟨W1, hW1⟩ : ∃ W1, (w.alloc (.deferred (some []))).alloc (.loop (rec .ready none)) = W1 := ⟨_, rfl⟩
  have hL1 : W1.heap[w.heap.size + 1]? = some (.loop (rec .ready none)) := by
    rw [← hW1]; have := World.alloc_heap_new (w.alloc (.deferred (some []))) (.loop (rec .ready none)); rwa [World.size_alloc] at this
  have hK1 : W1.heap[w.heap.size]? = some (.deferred (some [])) := by
    rw [← hW1]; exact (Below.heap_alloc _ _ _ (by simp)).trans (World.alloc_heap_new w _)
  have hb1 : Below w.heap.size w W1 := by
    rw [← hW1]; exact ((Below.refl _ w).alloc (Nat.le_refl _) _).alloc (by simp) _
  have hs1 : W1.heap.size = w.heap.size + 2 := by rw [← hW1]; simp
  have hfr : ∀ k, w.heap.size ≤ k → own0 k = none := fun k hk => by
    cases e : own0 k with
    | none => rfl
    | some v => exact absurd (hf0 k (by rw [e]; simp)) (by omega)
  have hI1 : I own0 [] W1 := hI own0 [] w W1 h0 (by omega) fun k _ hk => hb1.block k hk
  refine ⟨w.heap.size + 1, [{ target := .collected w.heap.size, args := #[] }], W1, { target := .fn (.func gf) lb, args := #[.func (.yield (w.heap.size + 1)) #[] #[]] }, W1, gf,
    #[.func (.yield (w.heap.size + 1)) #[] #[]] ++ lb, W1, ?_, ?_, ?_, ?_, fun _ => h1, ?_⟩
  · rw [← hW1, hrec]; exact run_enterLoop_outer _ _ _ _ _
  · simp only [resolve, hg]
    simp [go_sem]
  · intro f' hf'; simp [Target.leads] at hf'; subst hf'; exact hFg
  · simp [invoke, go_sem, eg]
  · -- what the iterator is told of the caller
    have hfc : Fresh (cov w.heap.size (w.heap.size + 1) own0) W1 := fun k hk => by
      by_cases e : k = w.heap.size ∨ k = w.heap.size + 1
      · omega
      · rw [cov_of (fun x => e (.inl x)) (fun x => e (.inr x))] at hk
        have := hf0 k hk; omega
    refine (hseq (w.heap.size + 1)
      (fun own2 pre W => ∃ own, I own pre W ∧ Fresh own W ∧ own2 = cov w.heap.size (w.heap.size + 1) own ∧ own w.heap.size = none ∧ own (w.heap.size + 1) = none ∧ W.heap[w.heap.size + 1]? = some (.loop (rec .ready none)) ∧ W.heap[w.heap.size]? = some (.deferred (some [])))
      (fun own2 pre W => ∃ own c, Ix c own pre W ∧ Fresh own W ∧ own2 = cov w.heap.size (w.heap.size + 1) own ∧ own w.heap.size = none ∧ own (w.heap.size + 1) = none ∧ W.heap[w.heap.size + 1]? = some (.loop (rec .done (some c))) ∧ W.heap[w.heap.size]? = some (.deferred (some [])))
      (cov w.heap.size (w.heap.size + 1) own0) W1 (hD W1 hb1)
      (fun k hk => by obtain ⟨e1, e2⟩ := hR k hk; rw [cov_of (by omega) (by omega)]; exact e1) (fun own2 pre W h => by obtain ⟨own, hi, _⟩ := h; exact hE own pre W hi) hfc ?_ ?_ ?_ ⟨own0, hI1, fun k hk => by have := hf0 k hk; omega, rfl, hfr _ (Nat.le_refl _), hfr _ (by omega), hL1, hK1⟩).mono ?_
    · rintro own2 pre W W' ⟨own, hi, hfo, rfl, hd, hr, hl, hk⟩ hsz hb
      have hlr := lt_of_heap hl
      have hld := lt_of_heap hk
      exact ⟨own, hI own pre W W' hi hsz (fun k hk1 hk2 => hb k (cov_ne hk1) hk2), fun k hk1 => Nat.lt_of_lt_of_le (hfo k hk1) hsz, rfl, hd, hr, (hb _ (by simp [cov]) hlr).trans hl, (hb _ (by simp [cov]) hld).trans hk⟩
    · rintro own2 pre W W' ⟨own, c, hi, hfo, rfl, hd, hr, hl, hk⟩ hsz hb
      have hlr := lt_of_heap hl
      have hld := lt_of_heap hk
      exact ⟨own, c, hIx c own pre W W' hi hsz (fun k hk1 hk2 => hb k (cov_ne hk1) hk2), fun k hk1 => Nat.lt_of_lt_of_le (hfo k hk1) hsz, rfl, hd, hr, (hb _ (by simp [cov]) hlr).trans hl, (hb _ (by simp [cov]) hld).trans hk⟩
    · -- a round
      rintro own2 pre x W ⟨own, hi, hfo, rfl, hd, hr, hl, hk⟩ _ hlen
      have hlr := lt_of_heap hl
      have hld := lt_of_heap hk
      have hy := run_yield (P := P) (args := encs x) hl (by rw [hrec]; exact hps x)
      rw [hrec] at hy
      refine ⟨fn, _, assign, body, hy, roundIn_of_wpIn hfn (hassign _ x W _ ⟨_, run_beginRound hl (by rw [hrec]), ?_⟩)⟩
      have hl2 : (W.putObj (w.heap.size + 1) (.loop { rec .ready none with state := .busy })).heap[w.heap.size + 1]? = some (.loop { rec .ready none with state := .busy }) := World.putObj_heap_same hlr
      have hs2 : (W.putObj (w.heap.size + 1) (.loop { rec .ready none with state := .busy })).heap.size = W.heap.size := by simp
      have hk2 : (W.putObj (w.heap.size + 1) (.loop { rec .ready none with state := .busy })).heap[w.heap.size]? = some (.deferred (some [])) := (World.putObj_heap_other (by omega)).trans hk
      have hi2 : I own pre (W.putObj (w.heap.size + 1) (.loop { rec .ready none with state := .busy })) := hI own pre W _ hi (by omega) fun k hk1 _ => World.putObj_heap_other fun e => by subst e; exact hk1 hr
      refine wpIn_mono (hbody _ own pre x _ hi2 (fun k hk1 => by rw [hs2]; exact hfo k hk1) (hA pre x W _ _ _ hl hlen)) ?_
      have fin : ∀ (jump : Option Code) (own' : Ow) (W3 : World), Keeps own own' (W.putObj (w.heap.size + 1) (.loop { rec .ready none with state := .busy })) W3 →
          (Instr.endRound (w.heap.size + 1) jump).run P W3 = .ok (.bool jump.isNone) (W3.putObj (w.heap.size + 1) (.loop (rec (if jump.isNone then .ready else .done) jump))) ∧
          own' w.heap.size = none ∧ own' (w.heap.size + 1) = none ∧ Fresh own' (W3.putObj (w.heap.size + 1) (.loop (rec (if jump.isNone then .ready else .done) jump))) ∧
          (W3.putObj (w.heap.size + 1) (.loop (rec (if jump.isNone then .ready else .done) jump))).heap[w.heap.size + 1]? = some (.loop (rec (if jump.isNone then .ready else .done) jump)) ∧
          (W3.putObj (w.heap.size + 1) (.loop (rec (if jump.isNone then .ready else .done) jump))).heap[w.heap.size]? = some (.deferred (some [])) ∧
          (∀ k, own' k ≠ none → (W3.putObj (w.heap.size + 1) (.loop (rec (if jump.isNone then .ready else .done) jump))).heap[k]? = W3.heap[k]?) := fun jump own' W3 hk3 => by
        have hl3 := (hk3.block (w.heap.size + 1) (by omega) hr).trans hl2
        have hd3 : own' w.heap.size = none := (hk3.same _ (by omega)).trans hd
        have hr3 : own' (w.heap.size + 1) = none := (hk3.same _ (by omega)).trans hr
        have := run_endRound (P := P) jump hl3
        rw [hrec] at this ⊢
        refine ⟨this, hd3, hr3, fun k hk' => ?_, World.putObj_heap_same (lt_of_heap hl3), (World.putObj_heap_other (by omega)).trans ((hk3.block _ (by omega) hd).trans hk2), fun k hk' => World.putObj_heap_other fun e => by subst e; exact hk' hr3⟩
        have := (show Fresh own (W.putObj (w.heap.size + 1) (.loop { rec .ready none with state := .busy })) from fun k hk1 => by rw [hs2]; exact hfo k hk1).keeps hk3 k hk'
        simpa using this
      rintro e a3 W3 hp
      cases e with
      | normal =>
        obtain ⟨own', hk3, hi3⟩ := hp
        obtain ⟨hr4, hd3, hr3, hf3, hl4, hk4, hb4⟩ := fin none own' W3 hk3
        exact ⟨_, _, hr4, cov w.heap.size (w.heap.size + 1) own', keeps_round hk3 rfl, .inl ⟨rfl, own', hI own' _ W3 _ hi3 (by simp) (fun k h _ => hb4 k h), hf3, rfl, hd3, hr3, hl4, hk4⟩⟩
      | ret =>
        obtain ⟨own', hk3, hi3⟩ := hp
        obtain ⟨hr4, hd3, hr3, hf3, hl4, hk4, hb4⟩ := fin (some .ret) own' W3 hk3
        exact ⟨_, _, hr4, cov w.heap.size (w.heap.size + 1) own', keeps_round hk3 rfl, .inr ⟨rfl, own', .ret, hIx _ own' _ W3 _ hi3 (by simp) (fun k h _ => hb4 k h), hf3, rfl, hd3, hr3, hl4, hk4⟩⟩
      | exit id =>
        obtain ⟨own', hk3, hi3⟩ := hp
        obtain ⟨hr4, hd3, hr3, hf3, hl4, hk4, hb4⟩ := fin (some (.exit id)) own' W3 hk3
        exact ⟨_, _, hr4, cov w.heap.size (w.heap.size + 1) own', keeps_round hk3 rfl, .inr ⟨rfl, own', .exit id, hIx _ own' _ W3 _ hi3 (by simp) (fun k h _ => hb4 k h), hf3, rfl, hd3, hr3, hl4, hk4⟩⟩
      | goto t =>
        obtain ⟨own', hk3, hi3⟩ := hp
        obtain ⟨hr4, hd3, hr3, hf3, hl4, hk4, hb4⟩ := fin (some (.goto t)) own' W3 hk3
        exact ⟨_, _, hr4, cov w.heap.size (w.heap.size + 1) own', keeps_round hk3 rfl, .inr ⟨rfl, own', .goto t, hIx _ own' _ W3 _ hi3 (by simp) (fun k h _ => hb4 k h), hf3, rfl, hd3, hr3, hl4, hk4⟩⟩
      | panic ch => exact hp.elim
      | outgrown => exact hp.elim
    · -- behind the iterator
      have fin : ∀ (own own2 : Ow) (W2 : World) (o : Obj), Keeps (cov w.heap.size (w.heap.size + 1) own0) own2 W1 W2 → own2 = cov w.heap.size (w.heap.size + 1) own → own w.heap.size = none → own (w.heap.size + 1) = none → Keeps own0 own w (W2.putObj (w.heap.size + 1) o) := by
        intro own own2 W2 o hK he hd hr
        subst he
        refine ⟨hK.os.trans hb1.os, hK.tape.trans hb1.tape, hK.output.trans hb1.output, ?_, fun k hk hn => ?_, fun k hk => ?_, fun k hk => ?_⟩
        · have := hK.size; simp; omega
        · rw [World.putObj_heap_other (by omega), hK.block k (by omega) (by rw [cov_of (by omega) (by omega)]; exact hn)]
          exact hb1.block k hk
        · have := hK.same k (by omega)
          rwa [cov_of (by omega) (by omega), cov_of (by omega) (by omega)] at this
        · have hkd : k ≠ w.heap.size := fun e => by subst e; exact hk hd
          have hkr : k ≠ w.heap.size + 1 := fun e => by subst e; exact hk hr
          rcases hK.new k (by rw [cov_of hkd hkr]; exact hk) with h1 | h1
          · rw [cov_of hkd hkr] at h1; exact .inl h1
          · exact .inr ⟨by omega, by simp; exact h1.2⟩
      rintro e W2 ⟨⟨v, rfl⟩, own2, hK, (⟨xs, hS, own, hi, hfo, he, hd, hr, hl, hk⟩ | ⟨pre, hSp, own, c, hi, hfo, he, hd, hr, hl, hk⟩)⟩
      · have hend := run_endLoop (P := P) hl (by rw [hrec]; simp)
        rw [hrec] at hend
        exact ⟨none, _, hend, hdone own xs _ hS (hI own xs W2 _ hi (by simp) fun k h1 _ => World.putObj_heap_other fun e => by subst e; exact h1 hr) (fin own own2 W2 _ hK he hd hr) hd ((World.putObj_heap_other (by omega)).trans hk)⟩
      · have hend := run_endLoop (P := P) hl (by rw [hrec]; simp)
        rw [hrec] at hend
        exact ⟨some c, _, hend, hstop own c pre _ hSp (hIx c own pre W2 _ hi (by simp) fun k h1 _ => World.putObj_heap_other fun e => by subst e; exact h1 hr) (fin own own2 W2 _ hK he hd hr) hd ((World.putObj_heap_other (by omega)).trans hk)⟩
end Of
end Go.Proofs.Ytjgakcpjphdicaa
