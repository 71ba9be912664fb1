/- Weighted sums over the steps: additive in the interval. The area under the steps. Envelopes as series. The path back through the table: places. What the walks share: blocks that are kept, ranges over functions. How blocks and rows of integers lie in memory. -/
import Derived.Test.YtionocafkaemiaaDoorK0
import Derived.RangeFuncNested
import Derived.RangeFuncBound
import Derived.RangeFuncCalls
import Derived.RangeFuncLeaves
import Derived.Shelf.Abstract
import Derived.Shelf.RegionOpen
import Derived.WalkKit
import Derived.OwnWalk
import Derived.OwnWalkIn
import Derived.TacticsInMore
import Derived.LoopNIn
import Derived.LoopIn
import Derived.LoopTactic
import Derived.Lib.Hide
import Derived.Deep.QuietTactic
import Derived.BigQuiet
import Derived.Deep.CutRange
import Derived.Deep.RegionHeld3
import Derived.Deep.AppendLies
import Derived.Laws.Rows
namespace Go.Proofs.YtionocafkaemiaaDoor.Sx

/-- A sum over the steps: a weight of the value times the length. -/
def wS (g : Int → Int) (M : List Sp) : Int := (M.map fun x => g x.v * (x.t - x.f)).sum
theorem wS_nil (g : Int → Int) : wS g [] = 0 := rfl
theorem wS_cons (g : Int → Int) (x : Sp) (M : List Sp) : wS g (x :: M) = g x.v * (x.t - x.f) + wS g M := by unfold wS; rw [List.map_cons, List.sum_cons]
theorem wS_app (g : Int → Int) (M N : List Sp) : wS g (M ++ N) = wS g M + wS g N := by unfold wS; rw [List.map_append, List.sum_append]
theorem wS_perm (g : Int → Int) {M N : List Sp} (h : M.Perm N) : wS g M = wS g N := by
  induction h with
  | nil => rfl
  | cons x _ ih => rw [wS_cons, wS_cons, ih]
  | swap x y l => rw [wS_cons, wS_cons, wS_cons, wS_cons]; omega
  | trans _ _ h1 h2 => rw [h1, h2]
def conS (g : Int → Int) (f t : Int) : List Sm → Int
  | [] => 0
  | x :: L => g x.v * max 0 (nxtA t L - max f x.a) + conS g f t L
theorem wS_ref (g : Int → Int) (f t : Int) : ∀ L, wS g (refSteps f t L) = conS g f t L
  | [] => rfl
  | x :: L => by
    show wS g ((if max f x.a < nxtA t L then [⟨max f x.a, nxtA t L, x.v⟩] else []) ++ refSteps f t L) = _
    rw [wS_app, wS_ref g f t L, show conS g f t (x :: L) = g x.v * max 0 (nxtA t L - max f x.a) + conS g f t L from rfl]
    split
    · rw [wS_cons, wS_nil, show max 0 (nxtA t L - max f x.a) = nxtA t L - max f x.a by omega]; simp
    · rw [show max 0 (nxtA t L - max f x.a) = 0 by omega, wS_nil]; simp
theorem con_split (g : Int → Int) {f m t : Int} (h1 : f ≤ m) (h2 : m ≤ t) : ∀ L, conS g f t L = conS g f m L + conS g m t L
  | [] => rfl
  | x :: L => by
    have hc : ∀ f t, conS g f t (x :: L) = g x.v * max 0 (nxtA t L - max f x.a) + conS g f t L := fun _ _ => rfl
    rw [hc, hc, hc, con_split g h1 h2 L]
    have e : max 0 (nxtA t L - max f x.a) = max 0 (nxtA m L - max f x.a) + max 0 (nxtA t L - max m x.a) := by
      cases L with
      | nil => show max 0 (t - max f x.a) = max 0 (m - max f x.a) + max 0 (t - max m x.a); omega
      | cons y L => show max 0 (min t y.a - max f x.a) = max 0 (min m y.a - max f x.a) + max 0 (min t y.a - max m x.a); omega
    rw [e, Int.mul_add]
    omega
theorem wS_split (g : Int → Int) {f m t : Int} (h1 : f ≤ m) (h2 : m ≤ t) (L : List Sm) : wS g (stepsV L f t) = wS g (stepsV L f m) + wS g (stepsV L m t) := by
  unfold stepsV
  rw [wS_ref, wS_ref, wS_ref, con_split g h1 h2]
theorem run_len {f t : Int} : ∀ {x : Sm} {L : List Sm}, x.a < t → (∀ y, y ∈ L → f < y.a) → wS (fun _ => 1) (runSteps f t (x :: L)) = t - max x.a f
  | x, [], hx, _ => by
    unfold runSteps
    rw [if_pos hx, wS_cons, runSteps, wS_nil]
    show 1 * (t - max x.a f) + 0 = _
    omega
  | x, y :: L, hx, hf => by
    have hy := hf y (List.mem_cons_self ..)
    rw [runSteps, if_pos hx, wS_cons]
    show 1 * (min t y.a - max x.a f) + _ = _
    by_cases h : y.a < t
    · rw [run_len h fun z hz => hf z (List.mem_cons_of_mem _ hz)]; omega
    · rw [runSteps, if_neg h, wS_nil]; omega
/-- The steps of a covered interval fill it. -/
theorem steps_len1 {L : List Sm} {f t : Int} (h : Cov L f t) : wS (fun _ => 1) (stepsV L f t) = t - f := by
  rw [← steps_run h]
  obtain ⟨u1, u2⟩ := upto_at h.ok.asc f
  have hc := h.cov
  have hl := upto_le L f
  have hft := h.ft
  have hne : upto L f - 1 < L.length := by omega
  have h0 := u1 (upto L f - 1) (by omega)
  rw [drop_next (sm_get hne), run_len (by omega) fun y hy => ?_]
  · omega
  · obtain ⟨i, hi, rfl⟩ := List.mem_iff_getElem.1 hy
    rw [List.length_drop] at hi
    have := u2 (upto L f - 1 + 1 + i) (by omega) (by omega)
    rw [sm_el (show upto L f - 1 + 1 + i < L.length by omega)] at this
    rw [List.getElem_drop]; exact this
theorem wS_le {g h : Int → Int} : ∀ {M : List Sp}, (∀ x, x ∈ M → x.f ≤ x.t ∧ g x.v ≤ h x.v) → wS g M ≤ wS h M
  | [], _ => Int.le_refl _
  | x :: M, hx => by
    rw [wS_cons, wS_cons]
    have h1 := hx x (List.mem_cons_self ..)
    have h2 := wS_le fun y hy => hx y (List.mem_cons_of_mem _ hy)
    have h3 := Int.mul_le_mul_of_nonneg_right h1.2 (show 0 ≤ x.t - x.f by omega)
    omega
theorem wS_congr {g h : Int → Int} : ∀ {M : List Sp}, (∀ x, x ∈ M → g x.v = h x.v) → wS g M = wS h M
  | [], _ => rfl
  | x :: M, hx => by
    rw [wS_cons, wS_cons, hx x (List.mem_cons_self ..), wS_congr fun y hy => hx y (List.mem_cons_of_mem _ hy)]
theorem wS_add (g h : Int → Int) : ∀ M : List Sp, wS (fun v => g v + h v) M = wS g M + wS h M
  | [] => rfl
  | x :: M => by
    rw [wS_cons, wS_cons, wS_cons, wS_add g h M, Int.add_mul]; omega
theorem wS_mul (c : Int) (g : Int → Int) : ∀ M : List Sp, wS (fun v => c * g v) M = c * wS g M
  | [] => by rw [wS_nil, wS_nil, Int.mul_zero]
  | x :: M => by
    rw [wS_cons, wS_cons, wS_mul c g M, Int.mul_add, Int.mul_assoc]
theorem share_w (bd : Int) : ∀ M : List Sp, shareV bd M = wS (fun v => if bd ≤ v then 1 else 0) M
  | [] => rfl
  | x :: M => by
    have e : shareV bd (x :: M) = (if bd ≤ x.v then x.t - x.f else 0) + shareV bd M := by unfold shareV; rw [List.map_cons, List.sum_cons]
    rw [e, wS_cons, share_w bd M]
    split <;> simp
end Go.Proofs.YtionocafkaemiaaDoor.Sx
namespace Go.Proofs.YtionocafkaemiaaDoor.Sx

def areaV (M : List Sp) : Ar := M.foldl (fun a x => plusV a (prodV x.v (x.t - x.f))) ⟨0, 0⟩
theorem prod_okV {v n : Int} (hv0 : 0 ≤ v) (hv1 : v ≤ 1000000000000) (hn0 : 0 ≤ n) (hn1 : n ≤ 1000000000000) : (prodV v n).Ok 1000000000000 := by
  obtain ⟨p0, p1⟩ := mul_bd hv0 hn0 hv1 hn1
  unfold prodV
  generalize v * n = p at *
  exact ⟨by dsimp only; omega, by dsimp only; omega, by dsimp only; omega, by dsimp only; omega⟩
theorem area_take {M : List Sp} {k : Nat} (h : k < M.length) : areaV (M.take (k + 1)) = plusV (areaV (M.take k)) (prodV (sp M k).v ((sp M k).t - (sp M k).f)) := by
  unfold areaV
  rw [List.take_add_one, sp_get h, List.foldl_append]
  rfl
theorem area_snoc (M : List Sp) (x : Sp) : areaV (M ++ [x]) = plusV (areaV M) (prodV x.v (x.t - x.f)) := by
  unfold areaV
  rw [List.foldl_append]
  rfl
theorem area_all {M : List Sp} {k : Nat} (h : k = M.length) : areaV (M.take k) = areaV M := by rw [h, List.take_length]
theorem area_okK {f t : Int} {M : List Sp} (h : ∀ x, x ∈ M → OkP f t x) (hf : 0 ≤ f) (ht : t ≤ 1000000000000) : ∀ k, k ≤ M.length → (areaV (M.take k)).Ok ((k : Int) * 1000000000001)
  | 0, _ => ⟨by simp [areaV], by simp [areaV], by simp [areaV], by simp [areaV]⟩
  | k + 1, hk => by
    have h1 := area_okK h hf ht k (by omega)
    have hx := h _ (sp_mem (show k < M.length by omega))
    have := hx.f0; have := hx.ft; have := hx.t1
    have h2 := prod_okV hx.v0 hx.v1 (show 0 ≤ (sp M k).t - (sp M k).f by omega) (by omega)
    have h3 := plus_okV h1 h2
    rw [area_take (by omega)]
    refine ⟨h3.h0, Int.le_trans h3.h1 ?_, h3.l0, h3.l1⟩
    have : ((k + 1 : Nat) : Int) = (k : Int) + 1 := by omega
    rw [this]
    omega
/-- Each partial area fits. -/
theorem area_fits {f t : Int} {M : List Sp} (h : ∀ x, x ∈ M → OkP f t x) (hf : 0 ≤ f) (ht : t ≤ 1000000000000) (hl : M.length ≤ 500) (k : Nat) (hk : k ≤ M.length) : (areaV (M.take k)).Ok 1000000000000000 := by
  have h1 := area_okK h hf ht k hk
  exact ⟨h1.h0, Int.le_trans h1.h1 (by omega), h1.l0, h1.l1⟩
theorem area_val (M : List Sp) : (areaV M).val = wS (fun v => v) M := by
  have key : ∀ (M : List Sp) (z : Ar), (M.foldl (fun a x => plusV a (prodV x.v (x.t - x.f))) z).val = z.val + wS (fun v => v) M := by
    intro M
    induction M with
    | nil => intro z; rw [wS_nil]; show z.val = _; omega
    | cons x M ih => intro z; rw [List.foldl_cons, ih, plus_val, prod_val, wS_cons]; omega
  unfold areaV
  rw [key]
  show (0 : Int) * 1000000000000 + 0 + _ = _
  omega
theorem area_ok {f t : Int} {M : List Sp} (h : ∀ x, x ∈ M → OkP f t x) (hf : 0 ≤ f) (ht : t ≤ 1000000000000) (hl : M.length ≤ 500) : (areaV M).Ok 1000000000000000 := by
  have := area_fits h hf ht hl M.length (Nat.le_refl _)
  rwa [List.take_length] at this
/-- One area is less than another one. -/
def lessV (a b : Ar) : Bool := decide (a.h < b.h ∨ (a.h = b.h ∧ a.l < b.l))
theorem less_val {a b : Ar} {A B : Int} (ha : a.Ok A) (hb : b.Ok B) : lessV a b = decide (a.val < b.val) := by
  have := ha.l0; have := ha.l1
  have := hb.l0; have := hb.l1
  unfold lessV Ar.val
  rw [Bool.eq_iff_iff]
  simp only [decide_eq_true_eq]
  omega
end Go.Proofs.YtionocafkaemiaaDoor.Sx
namespace Go.Proofs.YtionocafkaemiaaDoor.Sx

/-- The least envelope with samples at chosen places. -/
def overS (L : List Sm) : List Nat → List Sm
  | [] => []
  | i :: t => ⟨(sm L i).a, hiV L i (t.headD L.length - i)⟩ :: overS L t
def ovEnd (L : List Sm) (l : List Nat) (i : Nat) : Nat := if i + 1 < l.length then l.getD (i + 1) 0 else L.length
theorem over_len (L : List Sm) : ∀ l, (overS L l).length = l.length
  | [] => rfl
  | i :: t => by unfold overS; rw [List.length_cons, over_len L t, List.length_cons]
theorem over_get (L : List Sm) : ∀ (l : List Nat) (i : Nat), i < l.length → sm (overS L l) i = ⟨(sm L (l.getD i 0)).a, hiV L (l.getD i 0) (ovEnd L l i - l.getD i 0)⟩
  | [], i, h => by simp at h
  | x :: t, 0, _ => by
    show (⟨_, _⟩ : Sm) = ⟨_, _⟩
    have : t.headD L.length = ovEnd L (x :: t) 0 := by
      unfold ovEnd
      cases t with
      | nil => rfl
      | cons y t => simp
    rw [this]; rfl
  | x :: t, i + 1, h => by
    have h := over_get L t i (by simpa using h)
    have e1 : sm (overS L (x :: t)) (i + 1) = sm (overS L t) i := rfl
    have e2 : ovEnd L (x :: t) (i + 1) = ovEnd L t i := by unfold ovEnd; simp
    rw [e1, h, e2]; rfl
/-- Starts of runs: ascending places. -/
structure Starts (L : List Sm) (l : List Nat) : Prop where
  asc : l.Pairwise (· < ·)
  lt : ∀ i, i ∈ l → i < L.length
theorem Starts.tail {L : List Sm} {i : Nat} {t : List Nat} (h : Starts L (i :: t)) : Starts L t := ⟨(List.pairwise_cons.1 h.asc).2, fun j hj => h.lt j (List.mem_cons_of_mem _ hj)⟩
theorem Starts.len {L : List Sm} : ∀ {l : List Nat}, Starts L l → l.length ≤ L.length := fun {l} h => by
  have h1 : l.Nodup := h.asc.imp fun h => Nat.ne_of_lt h
  have := h1.length_le_of_subset (l₂ := List.range L.length) fun i hi => List.mem_range.2 (h.lt i hi)
  rwa [List.length_range] at this
theorem Starts.at {L : List Sm} {l : List Nat} (h : Starts L l) {i : Nat} (hi : i < l.length) : l.getD i 0 < ovEnd L l i ∧ ovEnd L l i ≤ L.length := by
  have e : l.getD i 0 = l[i] := by rw [List.getD_eq_getElem?_getD, List.getElem?_eq_getElem hi]; rfl
  unfold ovEnd
  split
  · next h2 =>
    have e2 : l.getD (i + 1) 0 = l[i + 1] := by rw [List.getD_eq_getElem?_getD, List.getElem?_eq_getElem h2]; rfl
    rw [e, e2]
    exact ⟨(List.pairwise_iff_getElem.1 h.asc) i (i + 1) hi h2 (by omega), Nat.le_of_lt (h.lt _ (List.getElem_mem h2))⟩
  · rw [e]; exact ⟨h.lt _ (List.getElem_mem hi), Nat.le_refl _⟩
theorem starts_of {L : List Sm} (hn : 0 < L.length) {x : List Nat} (h : Ext L.length (L.length - 1) [0] x) : Starts L x := by
  obtain ⟨t, rfl, h1, h2⟩ := h
  refine ⟨List.pairwise_cons.2 ⟨fun e he => by have := h2 e he; omega, h1⟩, fun e he => ?_⟩
  rcases List.mem_cons.1 he with rfl | he
  · exact hn
  · exact (h2 e he).2
theorem over_mem {L : List Sm} {l : List Nat} {x : Sm} (h : x ∈ overS L l) : ∃ i, i < l.length ∧ x = sm (overS L l) i := by
  obtain ⟨i, hi, rfl⟩ := List.mem_iff_getElem.1 h
  exact ⟨i, by rwa [over_len] at hi, (sm_el hi).symm⟩
theorem over_ok {L : List Sm} {u : Int} (h : OkE L u) {l : List Nat} (hl : Starts L l) : OkE (overS L l) u := by
  have hmem : ∀ {i}, i < l.length → l.getD i 0 < L.length := fun {i} hi => by have := hl.at hi; omega
  refine ⟨⟨by rw [over_len]; have := hl.len; have := h.ok.len; omega, ?_, ?_⟩, ?_, h.u1⟩
  · intro x hx
    obtain ⟨i, hi, rfl⟩ := over_mem hx
    rw [over_get L l i hi]
    have h1 := h.ok.ok _ (sm_mem (hmem hi))
    have h2 := hl.at hi
    obtain ⟨h3, h4⟩ := hiV_bd h.ok.ok (l.getD i 0) (ovEnd L l i - l.getD i 0) (by omega)
    exact ⟨h1.a0, h1.a1, h3, h4⟩
  · rw [List.pairwise_iff_getElem]
    intro i j hi hj hij
    rw [over_len] at hi hj
    rw [← sm_el (by rw [over_len]; exact hi), ← sm_el (by rw [over_len]; exact hj), over_get L l i hi, over_get L l j hj]
    have e1 : l.getD i 0 = l[i] := by rw [List.getD_eq_getElem?_getD, List.getElem?_eq_getElem hi]; rfl
    have e2 : l.getD j 0 = l[j] := by rw [List.getD_eq_getElem?_getD, List.getElem?_eq_getElem hj]; rfl
    refine h.ok.lt ?_ (hmem hj)
    rw [e1, e2]
    exact (List.pairwise_iff_getElem.1 hl.asc) i j hi hj hij
  · intro x hx
    obtain ⟨i, hi, rfl⟩ := over_mem hx
    rw [over_get L l i hi]
    exact h.last (sm L (l.getD i 0)) (sm_mem (hmem hi))
/-! Areas of whole series. -/
/-- The area of a series up to an end. -/
def runA (u : Int) : List Sm → Int
  | [] => 0
  | x :: M => x.v * (nxtA u M - x.a) + runA u M
def arE (u : Int) (M : List Sm) : Ar := areaV (stepsV M (sm M 0).a u)
theorem con_run {f u : Int} : ∀ {M : List Sm}, (∀ x, x ∈ M → f ≤ x.a ∧ x.a < u) → (M.Pairwise fun x y => x.a < y.a) → conS (fun v => v) f u M = runA u M
  | [], _, _ => rfl
  | x :: M, h, hp => by
    obtain ⟨h1, h2⟩ := List.pairwise_cons.1 hp
    have hx := h x (List.mem_cons_self ..)
    have hn : x.a < nxtA u M := by
      cases M with
      | nil => exact hx.2
      | cons y M => have := h1 y (List.mem_cons_self ..); show x.a < min u y.a; omega
    show x.v * max 0 (nxtA u M - max f x.a) + conS (fun v => v) f u M = x.v * (nxtA u M - x.a) + runA u M
    rw [con_run (fun y hy => h y (List.mem_cons_of_mem _ hy)) h2, show max 0 (nxtA u M - max f x.a) = nxtA u M - x.a by omega]
theorem first_le {M : List Sm} (h : M.Pairwise fun x y => x.a < y.a) : ∀ x, x ∈ M → (sm M 0).a ≤ x.a := by
  intro x hx
  cases M with
  | nil => cases hx
  | cons y M =>
    rcases List.mem_cons.1 hx with rfl | hx
    · exact Int.le_refl _
    · exact Int.le_of_lt ((List.pairwise_cons.1 h).1 x hx)
theorem arE_val {M : List Sm} {u : Int} (h : OkE M u) : (arE u M).val = runA u M := by
  unfold arE
  rw [area_val]
  unfold stepsV
  rw [wS_ref, con_run (fun x hx => ⟨first_le h.ok.asc x hx, h.last x hx⟩) h.ok.asc]
theorem cov_whole {M : List Sm} {u : Int} (h : OkE M u) (hn : 0 < M.length) : Cov M (sm M 0).a u := by
  have h0 := h.ok.ok _ (sm_mem hn)
  refine ⟨h.ok, h0.a0, h.last _ (sm_mem hn), h.u1, ?_⟩
  unfold upto
  rw [List.countP_pos_iff]
  exact ⟨sm M 0, sm_mem hn, by simp⟩
theorem arE_ok {M : List Sm} {u : Int} (h : OkE M u) : (arE u M).Ok 1000000000000000 := by
  unfold arE
  by_cases hn : 0 < M.length
  · have hc := cov_whole h hn
    exact area_ok (steps_ok h.ok) hc.f0 hc.t1 (by have := steps_len M (sm M 0).a u; have := h.ok.len; omega)
  · have : M = [] := List.length_eq_zero_iff.1 (by omega)
    subst this
    exact ⟨by simp [stepsV, refSteps, areaV], by simp [stepsV, refSteps, areaV], by simp [stepsV, refSteps, areaV], by simp [stepsV, refSteps, areaV]⟩
theorem run_over {L : List Sm} {u : Int} (h : OkE L u) : ∀ {t : List Nat} {i : Nat}, Starts L (i :: t) → runA u (overS L (i :: t)) = pathC L u i (t ++ [L.length])
  | [], i, _ => by
    show hiV L i (L.length - i) * (u - (sm L i).a) + 0 = costV L u i L.length + 0
    unfold costV endT
    rw [if_neg (by omega)]
  | e :: t, i, hs => by
    have he := hs.lt e (by simp)
    have h1 := h.last _ (sm_mem he)
    show hiV L i (e - i) * (nxtA u (overS L (e :: t)) - (sm L i).a) + runA u (overS L (e :: t)) = costV L u i e + pathC L u e (t ++ [L.length])
    rw [run_over h hs.tail]
    show hiV L i (e - i) * (min u (sm L e).a - (sm L i).a) + _ = _
    unfold costV
    rw [end_self u he, Int.min_eq_right (Int.le_of_lt h1)]
theorem area_over {L : List Sm} {u : Int} (h : OkE L u) (hn : 0 < L.length) {x : List Nat} (hx : Ext L.length (L.length - 1) [0] x) : (arE u (overS L x)).val = areaL L u x := by
  have hs := starts_of hn hx
  rw [arE_val (over_ok h hs)]
  obtain ⟨t, rfl, _⟩ := hx
  exact run_over h hs
/-! Which one is preferred, as the reference says it of series. -/
def lexA : List Sm → List Sm → Bool
  | x :: A, y :: B => decide (x.a < y.a) || (decide (x.a = y.a) && lexA A B)
  | _, _ => false
def beforeV (u : Int) (A B : List Sm) : Bool :=
  if arE u A ≠ arE u B then lessV (arE u A) (arE u B) else if A.length ≠ B.length then decide (A.length < B.length) else lexA A B
theorem lex_over {L : List Sm} (h : OkS L) : ∀ {l m : List Nat}, (∀ i, i ∈ l → i < L.length) → (∀ i, i ∈ m → i < L.length) → lexA (overS L l) (overS L m) = lexL l m
  | [], _, _, _ => by cases ‹List Nat› <;> rfl
  | _ :: _, [], _, _ => rfl
  | x :: l, y :: m, h1, h2 => by
    have hx := h1 x (List.mem_cons_self ..)
    have hy := h2 y (List.mem_cons_self ..)
    show (decide ((sm L x).a < (sm L y).a) || (decide ((sm L x).a = (sm L y).a) && lexA (overS L l) (overS L m))) = (decide (x < y) || (x == y && lexL l m))
    rw [lex_over h (fun i hi => h1 i (List.mem_cons_of_mem _ hi)) fun i hi => h2 i (List.mem_cons_of_mem _ hi)]
    rcases Nat.lt_trichotomy x y with h3 | h3 | h3
    · have := h.lt h3 hy
      rw [decide_eq_true h3, decide_eq_true this]; rfl
    · subst h3; simp
    · have := h.lt h3 hx
      have e : (x == y) = false := by simp; omega
      rw [decide_eq_false (show ¬ x < y by omega), decide_eq_false (show ¬ (sm L x).a < (sm L y).a by omega), decide_eq_false (show ¬ (sm L x).a = (sm L y).a by omega), e]
theorem before_pref {L : List Sm} {u : Int} (h : OkE L u) (hn : 0 < L.length) {x y : List Nat} (hx : Ext L.length (L.length - 1) [0] x) (hy : Ext L.length (L.length - 1) [0] y) :
    beforeV u (overS L x) (overS L y) = pref (areaL L u) x y := by
  have sx := starts_of hn hx
  have sy := starts_of hn hy
  have ox := over_ok h sx
  have oy := over_ok h sy
  have vx := area_over h hn hx
  have vy := area_over h hn hy
  unfold beforeV pref
  rw [less_val (arE_ok ox) (arE_ok oy), vx, vy, over_len, over_len, lex_over h.ok sx.lt sy.lt]
  by_cases he : arE u (overS L x) = arE u (overS L y)
  · have e2 : areaL L u x = areaL L u y := by rw [← vx, ← vy, he]
    rw [if_neg (by simpa using he), decide_eq_false (show ¬ areaL L u x < areaL L u y by omega), decide_eq_true e2]
    by_cases hl : x.length = y.length
    · rw [if_neg (by simpa using hl), decide_eq_false (show ¬ x.length < y.length by omega), decide_eq_true hl]; simp
    · rw [if_pos hl, decide_eq_false hl]; simp
  · rw [if_pos he]
    have e2 : ¬ areaL L u x = areaL L u y := fun e => he (ar_eq (arE_ok ox) (arE_ok oy) (by rw [vx, vy, e]))
    rw [decide_eq_false e2]; simp
/-- Envelope. -/
def chkE (L : List Sm) (u : Int) (most : Int) : Int :=
  if checkS L ≠ 0 then checkS L else if inT u = false ∨ (0 < L.length ∧ u ≤ (sm L (L.length - 1)).a) ∨ most < 1 ∨ 500 < most then 7 else if L.length = 0 then 4 else 0
theorem chkE_ok {L : List Sm} {u most : Int} (h : chkE L u most = 0) : OkE L u ∧ 0 < L.length ∧ 1 ≤ most ∧ most ≤ 500 := by
  unfold chkE at h
  split at h
  · next h1 => exact absurd h h1
  · next h1 =>
    split at h
    · cases h
    · next h2 =>
      split at h
      · cases h
      · next h3 =>
        have hok := (checkS_ok L).1 (Classical.not_not.1 h1)
        have hu : inT u = true := by
          cases e : inT u with
          | true => rfl
          | false => exact absurd (.inl e) h2
        have hul : ¬ u ≤ (sm L (L.length - 1)).a := fun e => h2 (.inr (.inl ⟨by omega, e⟩))
        have hm : ¬ most < 1 := fun e => h2 (.inr (.inr (.inl e)))
        have hm2 : ¬ 500 < most := fun e => h2 (.inr (.inr (.inr e)))
        refine ⟨⟨hok, fun x hx => ?_, (inT_iff.1 hu).2⟩, by omega, by omega, by omega⟩
        obtain ⟨i, hi, rfl⟩ := List.mem_iff_getElem.1 hx
        rw [← sm_el hi]
        rcases Nat.lt_or_ge i (L.length - 1) with h4 | h4
        · have := hok.lt h4 (by omega); omega
        · rw [show i = L.length - 1 by omega]; omega
/-- The choice that is the best one. -/
def bestL (L : List Sm) (u : Int) (most : Nat) : List Nat := (chooseV (areaL L u) L.length most (L.length - 1) [0] none).getD []
theorem bestL_is {L : List Sm} {u : Int} {most : Nat} (hn : 0 < L.length) (hm : 0 < most) : chooseV (areaL L u) L.length most (L.length - 1) [0] none = some (bestL L u most) ∧ BestE (areaL L u) (fun x => Ext L.length (L.length - 1) [0] x ∧ x.length ≤ most) (bestL L u most) := by
  obtain ⟨r, h1, h2⟩ := choose_best (c := areaL L u) hn hm
  have : bestL L u most = r := by unfold bestL; rw [h1]; rfl
  rw [this]; exact ⟨h1, h2⟩
def envS (L : List Sm) (u most : Int) : List Sm × Int := if chkE L u most ≠ 0 then ([], chkE L u most) else (overS L (bestL L u most.toNat), 0)
end Go.Proofs.YtionocafkaemiaaDoor.Sx
namespace Go.Proofs.YtionocafkaemiaaDoor.Sx

/-- Where the q-th run begins; behind the last one: the end. -/
def posE (L : List Sm) (x : List Nat) (q : Nat) : Nat := if q < x.length then x.getD q 0 else L.length
theorem pos_next (L : List Sm) {x : List Nat} {q : Nat} (_h : q < x.length) : posE L x (q + 1) = ovEnd L x q := by
  unfold posE ovEnd; rfl
theorem pos_ends {L : List Sm} {k : Nat} {x : List Nat} (hx : Ext L.length k [0] x) {q : Nat} (h : q < x.length) : (endsOf L.length x).getD q 0 = posE L x (q + 1) := by
  obtain ⟨t, rfl, _⟩ := hx
  show (t ++ [L.length]).getD q 0 = posE L (0 :: t) (q + 1)
  unfold posE
  have h : q < t.length + 1 := by simpa using h
  by_cases hq : q < t.length
  · rw [if_pos (show q + 1 < (0 :: t).length by simp; exact hq)]
    simp [List.getElem?_append_left hq]
  · obtain rfl : q = t.length := by omega
    rw [if_neg (show ¬ t.length + 1 < (0 :: t).length by simp)]
    simp
theorem pos_zero {L : List Sm} {k : Nat} {x : List Nat} (hx : Ext L.length k [0] x) : posE L x 0 = 0 := by
  obtain ⟨t, rfl, _⟩ := hx
  unfold posE
  rw [if_pos (show 0 < ([0] ++ t : List Nat).length by simp)]; rfl
/-- One run of the path. -/
theorem gp_run {L : List Sm} {u : Int} {k kk q : Nat} {x : List Nat} (hx : Ext L.length kk [0] x) (hk : x.length = k) (hq : q < k) (hg : Gp L u (k - q) (posE L x q) ((endsOf L.length x).drop q)) :
    Fst L u (k - q - 1) (posE L x q) (posE L x (q + 1)) ∧ Gp L u (k - (q + 1)) (posE L x (q + 1)) ((endsOf L.length x).drop (q + 1)) := by
  have hel := ends_len hx
  obtain ⟨m, hm⟩ : ∃ m, k - q = m + 1 := ⟨k - q - 1, by omega⟩
  rw [hm] at hg
  obtain ⟨e, t, he, hf, ht⟩ := hg
  have hlt : q < (endsOf L.length x).length := by omega
  have hd := List.drop_eq_getElem_cons hlt
  rw [hd] at he
  injection he with h1 h2
  have he2 : e = posE L x (q + 1) := by
    rw [← pos_ends hx (by omega), ← h1, List.getD_eq_getElem?_getD, List.getElem?_eq_getElem hlt]; rfl
  rw [show k - q - 1 = m by omega, show k - (q + 1) = m by omega, h2, ← he2]
  exact ⟨hf, ht⟩
theorem pos_lt {L : List Sm} {x : List Nat} (hs : Starts L x) {q : Nat} (h : q < x.length) : posE L x q = x.getD q 0 ∧ posE L x q < L.length := by
  have h1 : posE L x q = x.getD q 0 := by unfold posE; rw [if_pos h]
  have := hs.at h
  exact ⟨h1, by omega⟩
theorem pos_end (L : List Sm) {x : List Nat} {q : Nat} (h : q = x.length) : posE L x q = L.length := by unfold posE; rw [if_neg (by omega)]
/-- The sample that stands for the q-th run. -/
theorem over_take {L : List Sm} {x : List Nat} {q : Nat} (h : q < x.length) : (overS L x).take (q + 1) = (overS L x).take q ++ [⟨(sm L (posE L x q)).a, hiV L (posE L x q) (posE L x (q + 1) - posE L x q)⟩] := by
  rw [take_next (sm_get (show q < (overS L x).length by rw [over_len]; exact h)), over_get L x q h, pos_next L h]
  unfold posE
  rw [if_pos h]
end Go.Proofs.YtionocafkaemiaaDoor.Sx
namespace Go.Proofs.YtionocafkaemiaaDoor
open Go.RowKit Go.Shelf
namespace Sx

/-- Blocks that nobody owns are as they were. -/
structure Keeps (own own' : Nat → Option Nat) (w w' : World) : Prop where
  os : w'.os = w.os
  tape : w'.tape = w.tape
  output : w'.output = w.output
  size : w.heap.size ≤ w'.heap.size
  block : ∀ k, k < w.heap.size → own k = none → w'.heap[k]? = w.heap[k]?
  same : ∀ k, k < w.heap.size → own' k = own k
  new : ∀ k, own' k ≠ none → own k ≠ none ∨ (w.heap.size ≤ k ∧ k < w'.heap.size)

theorem Keeps.refl (own : Nat → Option Nat) (w : World) : Keeps own own w w := ⟨rfl, rfl, rfl, Nat.le_refl _, fun _ _ _ => rfl, fun _ _ => rfl, fun _ h => .inl h⟩
theorem Keeps.trans {o1 o2 o3 : Nat → Option Nat} {a b c : World} (h : Keeps o1 o2 a b) (k : Keeps o2 o3 b c) : Keeps o1 o3 a c :=
  ⟨k.os.trans h.os, k.tape.trans h.tape, k.output.trans h.output, Nat.le_trans h.size k.size,
    fun i hi hn => (k.block i (Nat.lt_of_lt_of_le hi h.size) ((h.same i hi).trans hn)).trans (h.block i hi hn),
    fun i hi => (k.same i (Nat.lt_of_lt_of_le hi h.size)).trans (h.same i hi),
    fun i hi => by
      have h1 := h.size
      have h2 := k.size
      rcases k.new i hi with h3 | h3
      · rcases h.new i h3 with h4 | h4
        · exact .inl h4
        · exact .inr ⟨h4.1, by omega⟩
      · exact .inr ⟨by omega, h3.2⟩⟩

/-- No block that is not there yet is the tree's. -/
def Fresh (own : Nat → Option Nat) (w : World) : Prop := ∀ k, own k ≠ none → k < w.heap.size
theorem Fresh.keeps {own own' : Nat → Option Nat} {w w' : World} (h : Fresh own w) (k : Keeps own own' w w') : Fresh own' w' := fun i hi => by
  rcases k.new i hi with h1 | h1
  · exact Nat.lt_of_lt_of_le (h i h1) k.size
  · exact h1.2
theorem Keeps.of_below (own : Nat → Option Nat) {w w' : World} (h : Below w.heap.size w w') : Keeps own own w w' :=
  ⟨h.os, h.tape, h.output, h.size, fun k hk _ => h.block k hk, fun _ _ => rfl, fun _ h => .inl h⟩

theorem lt_of_heap {w : World} {b : Nat} {o : Obj} (h : w.heap[b]? = some o) : b < w.heap.size := (Array.getElem?_eq_some_iff.1 h).1

theorem row_same {w w' : World} {e s n : Nat} {v : Value} {xs : List Value} (h : w.ownsRow 0 e s v n xs) (hk : ∀ g, v.ownBlock = some g → w'.heap[g]? = w.heap[g]?) : w'.ownsRow 0 e s v n xs := by
  refine ⟨h.1, ?_⟩
  rcases h.2 with hn | ⟨g, cap, cur, rfl, hb, hgg, rest⟩
  · exact .inl hn
  · exact .inr ⟨g, cap, cur, rfl, hb, by rw [hk g rfl]; exact hgg, rest⟩
theorem setCell_at (w : World) (g i : Nat) (cs : Array Value) (t : TypeId) (v : Value) (hg : w.heap[g]? = some (.cells cs t (0, 0))) :
    (w.setCell ⟨g, i, none⟩ v).heap[g]? = some (.cells (cs.setIfInBounds i v) t (0, 0)) := by
  simp [World.setCell, Array.getElem?_modify, hg]
theorem setCell_far (w : World) (a : Addr) (v : Value) (k : Nat) (h : k ≠ a.block) : (w.setCell a v).heap[k]? = w.heap[k]? := Below.heap_setCell w a v k h
theorem setCell_size (w : World) (a : Addr) (v : Value) : (w.setCell a v).heap.size = w.heap.size := by simp [World.setCell]

theorem heapAlloc (w : World) (o : Obj) (k : Nat) : (w.alloc o).heap[k]? = if k = w.heap.size then some o else w.heap[k]? := by
  show (w.heap.push o)[k]? = _
  rw [Array.getElem?_push]
theorem alloc_old (w : World) (o : Obj) (k : Nat) (h : k < w.heap.size) : (w.alloc o).heap[k]? = w.heap[k]? := by rw [heapAlloc, if_neg (by omega)]
structure Grow1 (g : Nat) (w w' : World) : Prop where
  os : w'.os = w.os
  tape : w'.tape = w.tape
  output : w'.output = w.output
  size : w.heap.size ≤ w'.heap.size
  block : ∀ k, k < w.heap.size → k ≠ g → w'.heap[k]? = w.heap[k]?

theorem Grow1.refl (g : Nat) (w : World) : Grow1 g w w := ⟨rfl, rfl, rfl, Nat.le_refl _, fun _ _ _ => rfl⟩
theorem Grow1.trans {g : Nat} {a b c : World} (h : Grow1 g a b) (k : Grow1 g b c) : Grow1 g a c :=
  ⟨k.os.trans h.os, k.tape.trans h.tape, k.output.trans h.output, Nat.le_trans h.size k.size, fun i hi hn => (k.block i (Nat.lt_of_lt_of_le hi h.size) hn).trans (h.block i hi hn)⟩
theorem Grow1.alloc {g : Nat} {a b : World} (h : Grow1 g a b) (o : Obj) : Grow1 g a (b.alloc o) :=
  h.trans ⟨rfl, rfl, rfl, by simp, fun k hk _ => by rw [heapAlloc, if_neg (by omega)]⟩
theorem Grow1.drew {g : Nat} {a b : World} (h : Grow1 g a b) : Grow1 g a b.drew := ⟨h.os, h.tape, h.output, h.size, h.block⟩
theorem Grow1.setCell {g : Nat} {a b : World} (h : Grow1 g a b) (o : Nat) (v : Value) : Grow1 g a (b.setCell ⟨g, o, none⟩ v) :=
  h.trans ⟨rfl, rfl, rfl, by rw [setCell_size]; exact Nat.le_refl _, fun k _ hn => setCell_far _ _ _ _ hn⟩

theorem info_open {P : Program} {t n s b : Nat} (h : (P.info? t).map (fun i => (i.zero.isSome, i.zero.map (fun z => z.cells.size), i.size, i.bytes)) = some (true, some n, s, b)) :
    ∃ i z, P.info? t = some i ∧ i.zero = some z ∧ i.size = s ∧ i.bytes = b ∧ z.cells.size = n := by
  cases hi : P.info? t with
  | none => rw [hi] at h; cases h
  | some i =>
    rw [hi] at h
    simp at h
    obtain ⟨h1, h2, h3, h4⟩ := h
    cases hz : i.zero with
    | none => rw [hz] at h1; cases h1
    | some z =>
      rw [hz] at h2
      obtain ⟨a, ha, hb⟩ := h2
      injection ha with ha
      subst ha
      exact ⟨i, z, rfl, hz, h3, h4, hb⟩
theorem below_box (w : World) (ob : Obj) : Below w.heap.size w (w.alloc ob) := (Below.refl _ _).alloc (Nat.le_refl _) _
theorem one_cell {w : World} {b T : Nat} {x : Value} (h : w.heap[b]? = some (.cells #[x] T (0, 0))) : w.cell? ⟨b, 0, none⟩ = some x ∧ w.frozen? ⟨b, 0, none⟩ = false := by
  constructor <;> simp [World.cell?, World.frozen?, h]
theorem cell_keep {w1 w2 : World} (hb : Below w1.heap.size w1 w2) {b : Nat} {v : Value} (h : w1.cell? ⟨b, 0, none⟩ = some v) : w2.cell? ⟨b, 0, none⟩ = some v :=
  (hb.cell (p := ⟨b, 0, none⟩) (World.block_lt_of_cell? w1 _ h)).trans h
theorem row_below {w w' : World} {B e s n : Nat} {v : Value} {xs : List Value} (h : w.ownsRow B e s v n xs) (hb : Below w.heap.size w w') : w'.ownsRow B e s v n xs := by
  refine ⟨h.1, ?_⟩
  rcases h.2 with hn | ⟨g, cap, cur, rfl, hB, hgg, rest⟩
  · exact .inl hn
  · exact .inr ⟨g, cap, cur, rfl, hB, by rw [hb.block g (lt_of_heap hgg)]; exact hgg, rest⟩
theorem row_keep {w w' : World} {B e s n : Nat} {v : Value} {xs : List Value} (h : w.ownsRow B e s v n xs) (hk : ∀ g, B ≤ g → g < w.heap.size → w'.heap[g]? = w.heap[g]?) : w'.ownsRow B e s v n xs := by
  refine ⟨h.1, ?_⟩
  rcases h.2 with hn | ⟨g, cap, cur, rfl, hB, hgg, rest⟩
  · exact .inl hn
  · exact .inr ⟨g, cap, cur, rfl, hB, by rw [hk g hB (lt_of_heap hgg)]; exact hgg, rest⟩
/-- Only one block is written. -/
structure OnlyB (b : Option Nat) (w w' : World) : Prop where
  os : w'.os = w.os
  tape : w'.tape = w.tape
  output : w'.output = w.output
  size : w'.heap.size = w.heap.size
  block : ∀ k, b ≠ some k → w'.heap[k]? = w.heap[k]?
abbrev Ow := Nat → Option Nat

/-- What is said of a world hangs on the blocks that one owns alone. -/
def Framed {β : Type} (I : Ow → β → World → Prop) : Prop :=
  ∀ own s W W', I own s W → W.heap.size ≤ W'.heap.size → (∀ k, own k ≠ none → k < W.heap.size → W'.heap[k]? = W.heap[k]?) → I own s W'

variable {F : Fence} {n : Nat} {P : Program}

/-- An iterator's contract: it reads what D says, in the blocks of R; whatever the caller owns it leaves as it is; all else that lay stays as it lay. -/
def SeqZ {α : Type} (F : Fence) (n : Nat) (P : Program) (g : Nat) (lb : Array Value) (encs : α → Array Value) (D E : World → Prop) (R : Nat → Prop) (S Sp : List α → Prop) (A : List α → α → Prop) : Prop :=
  ∀ (l : Nat) (J Jx : Ow → List α → World → Prop) (own0 : Ow) (W : World), D W → (∀ k, R k → own0 k = none) → (∀ own pre W1, J own pre W1 → E W1) → Fresh own0 W → Framed J → Framed Jx →
    (∀ own pre x W1, J own pre W1 → Fresh own W1 → A pre x → YieldAt F (n - 1) P l (encs x) W1 fun e W' =>
      ∃ own', Keeps own own' W1 W' ∧ ((e = .returned (.bool true) ∧ J own' (pre ++ [x]) W') ∨ (e = .returned (.bool false) ∧ Jx own' (pre ++ [x]) W'))) →
    J own0 [] W →
    CallsIn F n P g (#[.func (.yield l) #[] #[]] ++ lb) W fun e W' => (∃ v, e = .returned v) ∧ ∃ own', Keeps own0 own' W W' ∧ ((∃ xs, S xs ∧ J own' xs W') ∨ (∃ pre, Sp pre ∧ Jx own' pre W'))

/-- How the body of a round may be left. -/
def postY {α : Type} (I : Ow → List α → World → Prop) (Ix : Code → Ow → List α → World → Prop) (own : Ow) (xs : List α) (W : World) : Exit → Act → World → Prop
  | .normal, _, W' => ∃ own', Keeps own own' W W' ∧ I own' xs W'
  | .ret, _, W' => ∃ own', Keeps own own' W W' ∧ Ix .ret own' xs W'
  | .exit id, _, W' => ∃ own', Keeps own own' W W' ∧ Ix (.exit id) own' xs W'
  | .goto t, _, W' => ∃ own', Keeps own own' W W' ∧ Ix (.goto t) own' xs W'
  | .panic _, _, _ => False
  | .outgrown, _, _ => False

/-- With two blocks more. -/
def cov (d r : Nat) (own : Ow) : Ow := fun k => if k = d ∨ k = r then some 0 else own k

theorem cov_ne {d r k : Nat} {own : Ow} (h : own k ≠ none) : cov d r own k ≠ none := by
  unfold cov; split <;> simp_all
theorem cov_none {d r k : Nat} {own : Ow} (h : cov d r own k = none) : k ≠ d ∧ k ≠ r ∧ own k = none := by
  unfold cov at h
  split at h
  · cases h
  · next e => exact ⟨fun x => e (.inl x), fun x => e (.inr x), h⟩
theorem cov_of {d r k : Nat} {own : Ow} (h1 : k ≠ d) (h2 : k ≠ r) : cov d r own k = own k := by
  unfold cov; rw [if_neg (by rintro (e | e) <;> contradiction)]

/-- A round, with the record's turns before and behind it. -/
theorem keeps_round {d r : Nat} {own own' : Ow} {W1 W2 W3 : World} {o1 o2 : Obj} (h : Keeps own own' (W1.putObj r o1) W2) (e : W3 = W2.putObj r o2) : Keeps (cov d r own) (cov d r own') W1 W3 := by
  subst e
  have hs : (W1.putObj r o1).heap.size = W1.heap.size := by simp
  refine ⟨h.os, h.tape, h.output, by have := h.size; simp at this ⊢; omega, fun k hk hn => ?_, fun k hk => ?_, fun k hk => ?_⟩
  · obtain ⟨h1, h2, h3⟩ := cov_none hn
    rw [World.putObj_heap_other h2, h.block k (by omega) h3, World.putObj_heap_other h2]
  · by_cases e : k = d ∨ k = r
    · simp [cov, e]
    · rw [cov_of (fun x => e (.inl x)) (fun x => e (.inr x)), cov_of (fun x => e (.inl x)) (fun x => e (.inr x))]
      exact h.same k (by omega)
  · by_cases e : k = d ∨ k = r
    · left; simp [cov, e]
    · rw [cov_of (fun x => e (.inl x)) (fun x => e (.inr x))] at hk ⊢
      rcases h.new k hk with h1 | h1
      · exact .inl h1
      · exact .inr ⟨by omega, by simp; exact h1.2⟩

theorem rangeZ {α : Type} {g : Operand} {ps : Array Tmp} {assign body : Code} {Q : Exit → Act → World → Prop} {a : Act} {w : World}
    (hro : F.round = none) (h1 : 1 ≤ n) {gf : Nat} {lb : Array Value} (hg : a.eval g = .func (.func gf) #[] lb) (hFg : F.fn gf) (eg : ∀ args w, (callFunc gf args).run P w = .ok (.enter gf args) w)
    {encs : α → Array Value} {D E : World → Prop} {R : Nat → Prop} {S Sp : List α → Prop} {A : List α → α → Prop} (hseq : SeqZ F (n - 1) P gf lb encs D E R S Sp A)
    (own0 : Ow) (hf0 : Fresh own0 w) (hD : ∀ W, Below w.heap.size w W → D W) (hR : ∀ k, R k → own0 k = none ∧ k < w.heap.size) (hps : ∀ x, (encs x).size = ps.size)
    (I : Ow → List α → World → Prop) (Ix : Code → Ow → List α → World → Prop) (hE : ∀ own pre W, I own pre W → E W) (hI : Framed I) (hIx : ∀ c, Framed (Ix c)) (h0 : I own0 [] w) (a₁ : α → Act)
    (hassign : ∀ (l : Nat) (x : α) (W : World) (K : Act → World → Prop), K (a₁ x) W →
      assign.wpIn (F.inRound l) (n - 1 - 1) P (Exit.then K (fun _ _ _ => False)) { tmps := (ps.zip (encs x)).foldl (fun t (p, v) => t.setIfInBounds p v) a.tmps, defers := [] } W)
    (hbody : ∀ (l : Nat) (own : Ow) (pre : List α) (x : α) (W : World), I own pre W → Fresh own W → A pre x → body.wpIn (F.inRound l) (n - 1 - 1) P (postY I Ix own (pre ++ [x]) W) (a₁ x) W)
    (hdone : ∀ (own : Ow) (xs : List α) (W : World), S xs → I own xs W → Keeps own0 own w W → own w.heap.size = none → W.heap[w.heap.size]? = some (.deferred (some [])) → Q .normal { a with defers := { target := .collected w.heap.size, args := #[] } :: a.defers } W)
    (hstop : ∀ (own : Ow) (c : Code) (pre : List α) (W : World), Sp pre → Ix c own pre W → Keeps own0 own w W → own w.heap.size = none → W.heap[w.heap.size]? = some (.deferred (some [])) → c.wpIn F n P Q { a with defers := { target := .collected w.heap.size, args := #[] } :: a.defers } W) :
    (Code.rangeFunc g ps assign body).wpIn F n P Q a w := by
  refine wpIn_rangeFunc ?_
  intro fn hfn
  rw [hro]
  obtain ⟨rec, hrec⟩ : ∃ rec : LoopState → Option Code → Loop, rec = fun st pe => { state := st, pending := pe, fn, tmps := a.tmps, params := ps, assign, body, defers := w.heap.size } := ⟨_, rfl⟩
  obtain ⟨W1, hW1⟩ : ∃ W1, (w.alloc (.deferred (some []))).alloc (.loop (rec .ready none)) = W1 := ⟨_, rfl⟩
  have hL1 : W1.heap[w.heap.size + 1]? = some (.loop (rec .ready none)) := by
    rw [← hW1]; have := World.alloc_heap_new (w.alloc (.deferred (some []))) (.loop (rec .ready none)); rwa [World.size_alloc] at this
  have hK1 : W1.heap[w.heap.size]? = some (.deferred (some [])) := by
    rw [← hW1]; exact (Below.heap_alloc _ _ _ (by simp)).trans (World.alloc_heap_new w _)
  have hb1 : Below w.heap.size w W1 := by
    rw [← hW1]; exact ((Below.refl _ w).alloc (Nat.le_refl _) _).alloc (by simp) _
  have hs1 : W1.heap.size = w.heap.size + 2 := by rw [← hW1]; simp
  have hfr : ∀ k, w.heap.size ≤ k → own0 k = none := fun k hk => by
    cases e : own0 k with
    | none => rfl
    | some v => exact absurd (hf0 k (by rw [e]; simp)) (by omega)
  have hI1 : I own0 [] W1 := hI own0 [] w W1 h0 (by omega) fun k _ hk => hb1.block k hk
  refine ⟨w.heap.size + 1, [{ target := .collected w.heap.size, args := #[] }], W1, { target := .fn (.func gf) lb, args := #[.func (.yield (w.heap.size + 1)) #[] #[]] }, W1, gf,
    #[.func (.yield (w.heap.size + 1)) #[] #[]] ++ lb, W1, ?_, ?_, ?_, ?_, fun _ => h1, ?_⟩
  · rw [← hW1, hrec]; exact run_enterLoop_outer _ _ _ _ _
  · simp only [resolve, hg]
    simp [go_sem]
  · intro f' hf'; simp [Target.leads] at hf'; subst hf'; exact hFg
  · simp [invoke, go_sem, eg]
  · -- what the iterator is told of the caller
    have hfc : Fresh (cov w.heap.size (w.heap.size + 1) own0) W1 := fun k hk => by
      by_cases e : k = w.heap.size ∨ k = w.heap.size + 1
      · omega
      · rw [cov_of (fun x => e (.inl x)) (fun x => e (.inr x))] at hk
        have := hf0 k hk; omega
    refine (hseq (w.heap.size + 1)
      (fun own2 pre W => ∃ own, I own pre W ∧ Fresh own W ∧ own2 = cov w.heap.size (w.heap.size + 1) own ∧ own w.heap.size = none ∧ own (w.heap.size + 1) = none ∧ W.heap[w.heap.size + 1]? = some (.loop (rec .ready none)) ∧ W.heap[w.heap.size]? = some (.deferred (some [])))
      (fun own2 pre W => ∃ own c, Ix c own pre W ∧ Fresh own W ∧ own2 = cov w.heap.size (w.heap.size + 1) own ∧ own w.heap.size = none ∧ own (w.heap.size + 1) = none ∧ W.heap[w.heap.size + 1]? = some (.loop (rec .done (some c))) ∧ W.heap[w.heap.size]? = some (.deferred (some [])))
      (cov w.heap.size (w.heap.size + 1) own0) W1 (hD W1 hb1)
      (fun k hk => by obtain ⟨e1, e2⟩ := hR k hk; rw [cov_of (by omega) (by omega)]; exact e1) (fun own2 pre W h => by obtain ⟨own, hi, _⟩ := h; exact hE own pre W hi) hfc ?_ ?_ ?_ ⟨own0, hI1, fun k hk => by have := hf0 k hk; omega, rfl, hfr _ (Nat.le_refl _), hfr _ (by omega), hL1, hK1⟩).mono ?_
    · rintro own2 pre W W' ⟨own, hi, hfo, rfl, hd, hr, hl, hk⟩ hsz hb
      have hlr := lt_of_heap hl
      have hld := lt_of_heap hk
      exact ⟨own, hI own pre W W' hi hsz (fun k hk1 hk2 => hb k (cov_ne hk1) hk2), fun k hk1 => Nat.lt_of_lt_of_le (hfo k hk1) hsz, rfl, hd, hr, (hb _ (by simp [cov]) hlr).trans hl, (hb _ (by simp [cov]) hld).trans hk⟩
    · rintro own2 pre W W' ⟨own, c, hi, hfo, rfl, hd, hr, hl, hk⟩ hsz hb
      have hlr := lt_of_heap hl
      have hld := lt_of_heap hk
      exact ⟨own, c, hIx c own pre W W' hi hsz (fun k hk1 hk2 => hb k (cov_ne hk1) hk2), fun k hk1 => Nat.lt_of_lt_of_le (hfo k hk1) hsz, rfl, hd, hr, (hb _ (by simp [cov]) hlr).trans hl, (hb _ (by simp [cov]) hld).trans hk⟩
    · -- a round
      rintro own2 pre x W ⟨own, hi, hfo, rfl, hd, hr, hl, hk⟩ _ hlen
      have hlr := lt_of_heap hl
      have hld := lt_of_heap hk
      have hy := run_yield (P := P) (args := encs x) hl (by rw [hrec]; exact hps x)
      rw [hrec] at hy
      refine ⟨fn, _, assign, body, hy, roundIn_of_wpIn hfn (hassign _ x W _ ⟨_, run_beginRound hl (by rw [hrec]), ?_⟩)⟩
      have hl2 : (W.putObj (w.heap.size + 1) (.loop { rec .ready none with state := .busy })).heap[w.heap.size + 1]? = some (.loop { rec .ready none with state := .busy }) := World.putObj_heap_same hlr
      have hs2 : (W.putObj (w.heap.size + 1) (.loop { rec .ready none with state := .busy })).heap.size = W.heap.size := by simp
      have hk2 : (W.putObj (w.heap.size + 1) (.loop { rec .ready none with state := .busy })).heap[w.heap.size]? = some (.deferred (some [])) := (World.putObj_heap_other (by omega)).trans hk
      have hi2 : I own pre (W.putObj (w.heap.size + 1) (.loop { rec .ready none with state := .busy })) := hI own pre W _ hi (by omega) fun k hk1 _ => World.putObj_heap_other fun e => by subst e; exact hk1 hr
      refine wpIn_mono (hbody _ own pre x _ hi2 (fun k hk1 => by rw [hs2]; exact hfo k hk1) hlen) ?_
      have fin : ∀ (jump : Option Code) (own' : Ow) (W3 : World), Keeps own own' (W.putObj (w.heap.size + 1) (.loop { rec .ready none with state := .busy })) W3 →
          (Instr.endRound (w.heap.size + 1) jump).run P W3 = .ok (.bool jump.isNone) (W3.putObj (w.heap.size + 1) (.loop (rec (if jump.isNone then .ready else .done) jump))) ∧
          own' w.heap.size = none ∧ own' (w.heap.size + 1) = none ∧ Fresh own' (W3.putObj (w.heap.size + 1) (.loop (rec (if jump.isNone then .ready else .done) jump))) ∧
          (W3.putObj (w.heap.size + 1) (.loop (rec (if jump.isNone then .ready else .done) jump))).heap[w.heap.size + 1]? = some (.loop (rec (if jump.isNone then .ready else .done) jump)) ∧
          (W3.putObj (w.heap.size + 1) (.loop (rec (if jump.isNone then .ready else .done) jump))).heap[w.heap.size]? = some (.deferred (some [])) ∧
          (∀ k, own' k ≠ none → (W3.putObj (w.heap.size + 1) (.loop (rec (if jump.isNone then .ready else .done) jump))).heap[k]? = W3.heap[k]?) := fun jump own' W3 hk3 => by
        have hl3 := (hk3.block (w.heap.size + 1) (by omega) hr).trans hl2
        have hd3 : own' w.heap.size = none := (hk3.same _ (by omega)).trans hd
        have hr3 : own' (w.heap.size + 1) = none := (hk3.same _ (by omega)).trans hr
        have := run_endRound (P := P) jump hl3
        rw [hrec] at this ⊢
        refine ⟨this, hd3, hr3, fun k hk' => ?_, World.putObj_heap_same (lt_of_heap hl3), (World.putObj_heap_other (by omega)).trans ((hk3.block _ (by omega) hd).trans hk2), fun k hk' => World.putObj_heap_other fun e => by subst e; exact hk' hr3⟩
        have := (show Fresh own (W.putObj (w.heap.size + 1) (.loop { rec .ready none with state := .busy })) from fun k hk1 => by rw [hs2]; exact hfo k hk1).keeps hk3 k hk'
        simpa using this
      rintro e a3 W3 hp
      cases e with
      | normal =>
        obtain ⟨own', hk3, hi3⟩ := hp
        obtain ⟨hr4, hd3, hr3, hf3, hl4, hk4, hb4⟩ := fin none own' W3 hk3
        exact ⟨_, _, hr4, cov w.heap.size (w.heap.size + 1) own', keeps_round hk3 rfl, .inl ⟨rfl, own', hI own' _ W3 _ hi3 (by simp) (fun k h _ => hb4 k h), hf3, rfl, hd3, hr3, hl4, hk4⟩⟩
      | ret =>
        obtain ⟨own', hk3, hi3⟩ := hp
        obtain ⟨hr4, hd3, hr3, hf3, hl4, hk4, hb4⟩ := fin (some .ret) own' W3 hk3
        exact ⟨_, _, hr4, cov w.heap.size (w.heap.size + 1) own', keeps_round hk3 rfl, .inr ⟨rfl, own', .ret, hIx _ own' _ W3 _ hi3 (by simp) (fun k h _ => hb4 k h), hf3, rfl, hd3, hr3, hl4, hk4⟩⟩
      | exit id =>
        obtain ⟨own', hk3, hi3⟩ := hp
        obtain ⟨hr4, hd3, hr3, hf3, hl4, hk4, hb4⟩ := fin (some (.exit id)) own' W3 hk3
        exact ⟨_, _, hr4, cov w.heap.size (w.heap.size + 1) own', keeps_round hk3 rfl, .inr ⟨rfl, own', .exit id, hIx _ own' _ W3 _ hi3 (by simp) (fun k h _ => hb4 k h), hf3, rfl, hd3, hr3, hl4, hk4⟩⟩
      | goto t =>
        obtain ⟨own', hk3, hi3⟩ := hp
        obtain ⟨hr4, hd3, hr3, hf3, hl4, hk4, hb4⟩ := fin (some (.goto t)) own' W3 hk3
        exact ⟨_, _, hr4, cov w.heap.size (w.heap.size + 1) own', keeps_round hk3 rfl, .inr ⟨rfl, own', .goto t, hIx _ own' _ W3 _ hi3 (by simp) (fun k h _ => hb4 k h), hf3, rfl, hd3, hr3, hl4, hk4⟩⟩
      | panic ch => exact hp.elim
      | outgrown => exact hp.elim
    · -- behind the iterator
      have fin : ∀ (own own2 : Ow) (W2 : World) (o : Obj), Keeps (cov w.heap.size (w.heap.size + 1) own0) own2 W1 W2 → own2 = cov w.heap.size (w.heap.size + 1) own → own w.heap.size = none → own (w.heap.size + 1) = none → Keeps own0 own w (W2.putObj (w.heap.size + 1) o) := by
        intro own own2 W2 o hK he hd hr
        subst he
        refine ⟨hK.os.trans hb1.os, hK.tape.trans hb1.tape, hK.output.trans hb1.output, ?_, fun k hk hn => ?_, fun k hk => ?_, fun k hk => ?_⟩
        · have := hK.size; simp; omega
        · rw [World.putObj_heap_other (by omega), hK.block k (by omega) (by rw [cov_of (by omega) (by omega)]; exact hn)]
          exact hb1.block k hk
        · have := hK.same k (by omega)
          rwa [cov_of (by omega) (by omega), cov_of (by omega) (by omega)] at this
        · have hkd : k ≠ w.heap.size := fun e => by subst e; exact hk hd
          have hkr : k ≠ w.heap.size + 1 := fun e => by subst e; exact hk hr
          rcases hK.new k (by rw [cov_of hkd hkr]; exact hk) with h1 | h1
          · rw [cov_of hkd hkr] at h1; exact .inl h1
          · exact .inr ⟨by omega, by simp; exact h1.2⟩
      rintro e W2 ⟨⟨v, rfl⟩, own2, hK, (⟨xs, hS, own, hi, hfo, he, hd, hr, hl, hk⟩ | ⟨pre, hSp, own, c, hi, hfo, he, hd, hr, hl, hk⟩)⟩
      · have hend := run_endLoop (P := P) hl (by rw [hrec]; simp)
        rw [hrec] at hend
        exact ⟨none, _, hend, hdone own xs _ hS (hI own xs W2 _ hi (by simp) fun k h1 _ => World.putObj_heap_other fun e => by subst e; exact h1 hr) (fin own own2 W2 _ hK he hd hr) hd ((World.putObj_heap_other (by omega)).trans hk)⟩
      · have hend := run_endLoop (P := P) hl (by rw [hrec]; simp)
        rw [hrec] at hend
        exact ⟨some c, _, hend, hstop own c pre _ hSp (hIx c own pre W2 _ hi (by simp) fun k h1 _ => World.putObj_heap_other fun e => by subst e; exact h1 hr) (fin own own2 W2 _ hK he hd hr) hd ((World.putObj_heap_other (by omega)).trans hk)⟩
end Sx
end Go.Proofs.YtionocafkaemiaaDoor
namespace Go.Proofs.YtionocafkaemiaaDoor
open Go.RowKit
namespace Sx
abbrev addr (A : List Int) (i : Nat) : Int := A.getD i 0

theorem below_drewN {n : Nat} {w w' : World} (h : Below n w w') (q : Nat) : Below n w (w'.drewN q) := ⟨h.os, h.tape, h.output, h.size, h.block⟩
theorem below_drew {n : Nat} {w w' : World} (h : Below n w w') : Below n w w'.drew := ⟨h.os, h.tape, h.output, h.size, h.block⟩
theorem bcell {W w1 : World} {n : Nat} (hb : Below n W w1) : (∀ b o, b < n → w1.cell? ⟨b, o, none⟩ = W.cell? ⟨b, o, none⟩) ∧ (∀ b o, b < n → w1.frozen? ⟨b, o, none⟩ = W.frozen? ⟨b, o, none⟩) :=
  ⟨fun b o h => hb.cell (p := ⟨b, o, none⟩) h, fun b o h => hb.frozen (p := ⟨b, o, none⟩) h⟩
theorem add_plain (g o n : Nat) : (⟨g, o, none⟩ : Addr).add n = ⟨g, o + n, none⟩ := by
  unfold Addr.add
  split
  · next h => rw [h]; rfl
  · rfl

/-- A slice of integers that lies somewhere. -/
def IAt (w : World) (A : Option Addr) (c : Nat) (M : List Int) : Prop :=
  M.length ≤ c ∧ c ≤ maxLen ∧ ∀ (j : Nat) (x : Int), M[j]? = some x → ∃ g o, A = some ⟨g, o, none⟩ ∧ g < w.heap.size ∧ w.cell? ⟨g, o + j, none⟩ = some (.int .i64 x)
theorem IAt.keep {w w' : World} {A : Option Addr} {c : Nat} {M : List Int} (h : IAt w A c M) (hs : w.heap.size ≤ w'.heap.size) (hk : ∀ g, A.map (·.block) = some g → g < w.heap.size → w'.heap[g]? = w.heap[g]?) : IAt w' A c M := by
  refine ⟨h.1, h.2.1, fun j x hx => ?_⟩
  obtain ⟨g, o, hA, hg, h1⟩ := h.2.2 j x hx
  exact ⟨g, o, hA, by omega, (World.cell?_of_block (a := ⟨g, _, none⟩) (hk g (by rw [hA]; rfl) hg)).trans h1⟩
theorem IAt.below {w w' : World} {n : Nat} {A : Option Addr} {c : Nat} {M : List Int} (h : IAt w A c M) (hb : Below n w w') (hn : w.heap.size ≤ n) : IAt w' A c M :=
  h.keep hb.size fun g _ hg => hb.block g (by omega)
theorem IAt.at {w : World} {A : Option Addr} {c : Nat} {M : List Int} (h : IAt w A c M) {j : Nat} (hj : j < M.length) : ∃ g o, A = some ⟨g, o, none⟩ ∧ g < w.heap.size ∧ w.cell? ⟨g, o + j, none⟩ = some (.int .i64 (addr M j)) :=
  h.2.2 j _ (by unfold addr; rw [List.getD_eq_getElem?_getD, List.getElem?_eq_getElem hj]; rfl)
theorem IAt.head {w : World} {A : Option Addr} {c : Nat} {M : List Int} (h : IAt w A c M) (hp : 0 < M.length) : ∃ g o, A = some ⟨g, o, none⟩ ∧ g < w.heap.size := by
  obtain ⟨g, o, h1, h2, _⟩ := h.at hp
  exact ⟨g, o, h1, h2⟩
theorem IAt.block {w : World} {g o c : Nat} {M : List Int} (h : IAt w (.some ⟨g, o, none⟩) c M) (hp : 0 < M.length) : g < w.heap.size := by
  obtain ⟨g', o', h1, h2, _⟩ := h.at hp
  injection h1 with h1; injection h1 with h1 _
  rw [h1]; exact h2
theorem IAt.take {w : World} {A : Option Addr} {c : Nat} {M : List Int} (h : IAt w A c M) (k c' : Nat) (hk : min k M.length ≤ c') (hc : c' ≤ maxLen) : IAt w A c' (M.take k) :=
  ⟨by rw [List.length_take]; exact hk, hc, fun j x hx => by
    rw [List.getElem?_take] at hx
    split at hx
    · exact h.2.2 j x hx
    · cases hx⟩
theorem IAt.drop {w : World} {g o c k : Nat} {M : List Int} (h : IAt w (some ⟨g, o, none⟩) c M) (hk : k ≤ M.length) : IAt w (some ⟨g, o + k, none⟩) (c - k) (M.drop k) := by
  have h1 := h.1
  have h2 := h.2.1
  refine ⟨by rw [List.length_drop]; omega, by omega, fun j x hx => ?_⟩
  rw [List.getElem?_drop] at hx
  obtain ⟨g', o', hA, hg, d⟩ := h.2.2 _ x hx
  injection hA with hA; injection hA with e1 e2
  subst e1; subst e2
  exact ⟨g, o + k, rfl, hg, by rw [Nat.add_assoc]; exact d⟩
theorem iat_nil (w : World) : IAt w none 0 [] := ⟨Nat.le_refl _, Nat.zero_le _, fun j x hx => by simp at hx⟩

/-- The cells of a row of integers. -/
def ci (M : List Int) : List Value := M.map (.int .i64)
theorem ci_len (M : List Int) : (ci M).length = M.length := List.length_map _
theorem ci_add (M N : List Int) : ci (M ++ N) = ci M ++ ci N := List.map_append ..
theorem ci_get {M : List Int} {j : Nat} {x : Int} (h : M[j]? = some x) : (ci M)[j]? = some (.int .i64 x) := by unfold ci; rw [List.getElem?_map, h]; rfl
theorem ci_one (M : List Int) : ∀ u ∈ ci M, u.oneCell' = true := by
  intro u hu
  obtain ⟨x, _, rfl⟩ := List.mem_map.1 hu
  rfl
theorem i_addr {w : World} {A : Option Addr} {ad : Addr} {c : Nat} {M : List Int} (h : IAt w A c M) (hA : A = some ad) : ∀ j u, (ci M)[j]? = some u → w.cell? (ad.add j) = some u := by
  intro j u hu
  have hj : j < M.length := by have := (List.getElem?_eq_some_iff.1 hu).1; rwa [ci_len] at this
  obtain ⟨x, hx⟩ : ∃ x, M[j]? = some x := ⟨_, List.getElem?_eq_getElem hj⟩
  rw [ci_get hx] at hu
  injection hu with hu
  obtain ⟨g, o, h1, _, h3⟩ := h.2.2 j x hx
  rw [hA] at h1
  injection h1 with h1
  rw [h1, ← hu, add_plain]
  exact h3
/-- A row of one's own: of the type T. -/
abbrev OwnI (w : World) (B T : Nat) (A : Option Addr) (c : Nat) (M : List Int) : Prop := w.ownsRow B T 1 (.slice A M.length c) M.length (ci M)
theorem row_at {w : World} {B T s n c g : Nat} {xs : List Value} (h : w.ownsRow B T s (.slice (some ⟨g, 0, none⟩) n c) n xs) {j : Nat} {v : Value} (hj : xs[j]? = some v) : w.cell? ⟨g, j, none⟩ = some v := by
  have := h.cells (g := g) rfl _ _ hj
  rwa [add_plain, Nat.zero_add] at this
theorem OwnI.at {w : World} {B T c : Nat} {A : Option Addr} {M : List Int} (h : OwnI w B T A c M) : IAt w A c M ∧ ∀ g, A.map (·.block) = some g → B ≤ g ∧ g < w.heap.size := by
  rcases h.2 with ⟨hv, h0⟩ | ⟨g, cp, cur, hv, hB, hg, h1, h2, _⟩
  · injection hv with e1 e2 e3
    subst e1; subst e3
    exact ⟨⟨by omega, by unfold maxLen; omega, fun j x hx => by have := (List.getElem?_eq_some_iff.1 hx).1; omega⟩, fun g hg => by cases hg⟩
  · injection hv with e1 e2 e3
    subst e1; subst e3
    refine ⟨⟨h1, h2, fun j x hx => ⟨g, 0, rfl, lt_of_heap hg, by rw [Nat.zero_add]; exact row_at h (ci_get hx)⟩⟩, fun g' hg' => ?_⟩
    injection hg' with hg'
    exact ⟨by rw [← hg']; exact hB, by rw [← hg']; exact lt_of_heap hg⟩
theorem OwnI.nil {w : World} {B T c : Nat} {A : Option Addr} {M : List Int} (h : OwnI w B T A c M) : A = none → c = 0 ∧ M = [] := by
  rintro rfl
  rcases h.2 with ⟨hv, h0⟩ | ⟨g, cp, cur, hv, _⟩
  · injection hv with e1 e2 e3
    exact ⟨e3, List.length_eq_zero_iff.1 h0⟩
  · injection hv with h1; cases h1
theorem row_own {w : World} {B T s n : Nat} {xs : List Value} {v : Value} (h : w.ownsRow B T s v n xs) : ∃ A c, v = .slice A n c := by
  rcases h.2 with ⟨hv, h0⟩ | ⟨g, cp, cur, hv, _⟩
  · exact ⟨_, _, by rw [hv, h0]⟩
  · exact ⟨_, _, hv⟩
theorem own_nil (w : World) (B T : Nat) : OwnI w B T none 0 [] := ⟨rfl, .inl ⟨rfl, rfl⟩⟩
theorem row_low {w : World} {B B' e s n : Nat} {v : Value} {xs : List Value} (h : w.ownsRow B e s v n xs) (hB : B' ≤ B) : w.ownsRow B' e s v n xs := by
  refine ⟨h.1, ?_⟩
  rcases h.2 with hn | ⟨g, cap, cur, hv, hb, rest⟩
  · exact .inl hn
  · exact .inr ⟨g, cap, cur, hv, Nat.le_trans hB hb, rest⟩

/-- A block of integers, written in place. -/
def RowI (T : TypeId) (w : World) (g : Nat) (M : List Int) : Prop := ∃ cs : Array Value, w.heap[g]? = some (.cells cs T (0, 0)) ∧ cs.toList = ci M
theorem RowI.lt {T : TypeId} {w : World} {g : Nat} {M : List Int} (h : RowI T w g M) : g < w.heap.size := by
  obtain ⟨cs, h1, _⟩ := h; exact lt_of_heap h1
theorem RowI.keep {T : TypeId} {w w' : World} {g : Nat} {M : List Int} (h : RowI T w g M) (hk : w'.heap[g]? = w.heap[g]?) : RowI T w' g M := by
  obtain ⟨cs, h1, h2⟩ := h; exact ⟨cs, hk.trans h1, h2⟩
theorem RowI.cell {T : TypeId} {w : World} {g : Nat} {M : List Int} (h : RowI T w g M) {j : Nat} (hj : j < M.length) : w.cell? ⟨g, j, none⟩ = some (.int .i64 (addr M j)) := by
  obtain ⟨cs, h1, h2⟩ := h
  rw [cell_of_row _ _ _ _ _ _ h1, ← Array.getElem?_toList, h2]
  exact ci_get (by unfold addr; rw [List.getD_eq_getElem?_getD, List.getElem?_eq_getElem hj]; rfl)
theorem RowI.frozen {T : TypeId} {w : World} {g : Nat} {M : List Int} (h : RowI T w g M) (j : Nat) : w.frozen? ⟨g, j, none⟩ = false := by
  obtain ⟨cs, h1, _⟩ := h; simp [World.frozen?, h1]
theorem RowI.set {T : TypeId} {w : World} {g : Nat} {M : List Int} (h : RowI T w g M) (j : Nat) (v : Int) : RowI T (w.setCell ⟨g, j, none⟩ (.int .i64 v)) g (M.set j v) := by
  obtain ⟨cs, h1, h2⟩ := h
  refine ⟨_, setCell_at _ _ _ _ _ _ h1, ?_⟩
  rw [Array.toList_setIfInBounds, h2]
  unfold ci
  rw [List.map_set]
theorem RowI.at {T : TypeId} {w : World} {g : Nat} {M : List Int} (h : RowI T w g M) (hm : M.length ≤ maxLen) : IAt w (some ⟨g, 0, none⟩) M.length M :=
  ⟨Nat.le_refl _, hm, fun j x hx => ⟨g, 0, rfl, h.lt, by
    rw [Nat.zero_add]
    obtain ⟨cs, h1, h2⟩ := h
    rw [cell_of_row _ _ _ _ _ _ h1, ← Array.getElem?_toList, h2]
    exact ci_get hx⟩⟩
/-- Naturals as integers. -/
abbrev zs (l : List Nat) : List Int := l.map fun (n : Nat) => (n : Int)
theorem zs_get {l : List Nat} {j x : Nat} (h : l[j]? = some x) : (zs l)[j]? = some (x : Int) := by rw [List.getElem?_map, h]; rfl
theorem iat_nat {w : World} {A : Option Addr} {c : Nat} {l : List Nat} (h : IAt w A c (zs l)) {j x : Nat} (hj : l[j]? = some x) : ∃ g o, A = some ⟨g, o, none⟩ ∧ g < w.heap.size ∧ w.cell? ⟨g, o + j, none⟩ = some (.int .i64 (x : Int)) := h.2.2 j _ (zs_get hj)

theorem cell_keep2 {w1 w2 : World} (hb : Below w1.heap.size w1 w2) {b o : Nat} {v : Value} (h : w1.cell? ⟨b, o, none⟩ = some v) : w2.cell? ⟨b, o, none⟩ = some v :=
  (hb.cell (p := ⟨b, o, none⟩) (World.block_lt_of_cell? w1 _ h)).trans h
theorem three_at {W : World} {B T : Nat} {x0 x1 x2 : Value} (h : W.heap[B]? = some (.cells #[x0, x1, x2] T (0, 0))) : W.cell? ⟨B, 0, none⟩ = some x0 ∧ W.cell? ⟨B, 1, none⟩ = some x1 ∧ W.cell? ⟨B, 2, none⟩ = some x2 := by
  refine ⟨?_, ?_, ?_⟩ <;> (rw [cell_of_row _ _ _ _ _ _ h]; rfl)
end Sx
end Go.Proofs.YtionocafkaemiaaDoor
