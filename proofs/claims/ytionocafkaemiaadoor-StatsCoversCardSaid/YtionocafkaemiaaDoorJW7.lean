/- Reports: the program's walk. Reports: the program's Report, whole. -/
import Derived.Test.YtionocafkaemiaaDoorJW5
import Derived.Test.YtionocafkaemiaaDoorJA4
import Derived.Test.YtionocafkaemiaaDoorJA8
import Derived.Test.YtionocafkaemiaaDoorJA11
import Derived.Test.YtionocafkaemiaaDoorJA13
import Derived.Deep.CutBlock
import Derived.Lib.AppendIntMem
namespace Go.Proofs.YtionocafkaemiaaDoor
open Go.Shelf Go.RowKit Go.Lib
namespace Sx
attribute [local irreducible] wpQuiet
/-- The builder of a report. -/
def BF (N : Nat) (bs : List UInt8) (w : World) : Prop := Lib.IsBuilderF TB TU N N (Lib.byteCells bs) w
theorem BF.lt {N : Nat} {bs : List UInt8} {w : World} (h : BF N bs w) : N < w.heap.size := by
  rcases h with h | h <;> exact h.lt
theorem BF.keep {N : Nat} {bs : List UInt8} {w w' : World} (h : BF N bs w) (hk : ∀ k, k < w.heap.size → w'.heap[k]? = w.heap[k]?) : BF N bs w' := by
  have aux : ∀ p, BuilderAtF TB TU N N p (byteCells bs) w → BuilderAtF TB TU N N p (byteCells bs) w' := fun p h => by
    obtain ⟨hB, v, hbk, hown, hne⟩ := h
    refine ⟨hB, v, (hk _ (lt_block hbk)).trans hbk, ⟨hown.1, ?_⟩, hne⟩
    rcases hown.2 with h1 | ⟨g, cap, cur, fz, hv, hb, hg, rest⟩
    · exact .inl h1
    · exact .inr ⟨g, cap, cur, fz, hv, hb, (hk _ (lt_block hg)).trans hg, rest⟩
  rcases h with h | h
  · exact .inl (aux _ h)
  · exact .inr (aux _ h)
theorem BF.below {N m : Nat} {bs : List UInt8} {w w' : World} (h : BF N bs w) (hb : Below m w w') (hm : w.heap.size ≤ m) : BF N bs w' :=
  h.keep fun k hk => hb.block k (by omega)
theorem BF.new (w : World) : BF w.heap.size [] (w.alloc (.cells #[.pointer none, .slice none 0 0] TB)) := Lib.IsBuilderF.of (Lib.fresh_isBuilder TB TU w)
theorem bf_str {N : Nat} {bs : List UInt8} {s : ByteArray} {w : World} (h : BAt N N (byteCells bs ++ strCells s) w) : BF N (bs ++ s.data.toList) w := by
  rw [Lib.strCells_eq, ← Lib.byteCells_append] at h
  exact .inr h
theorem bf_byte {N : Nat} {bs : List UInt8} {w : World} (h : BAt N N (byteCells bs ++ [.int .u8 10]) w) : BF N (bs ++ [10]) w := by
  have e : byteCells (bs ++ [10]) = byteCells bs ++ [.int .u8 10] := by rw [Lib.byteCells_append]; rfl
  exact .inr (by rw [e]; exact h)
theorem bwsF {N : Nat} {bs : List UInt8} {s : ByteArray} {w : World} (h : BF N bs w) (hlen : bs.length + s.size ≤ 140737488355328) :
    Calls Tryd.prog 68 #[.pointer (some ⟨N, 0, none⟩), .string s] w fun e w' => e = .returned (.tuple #[.int .i64 s.size, .nilIface]) ∧ (BF N (bs ++ s.data.toList) w' ∧ Below N w w' ∧ Lib.OthersKept TU (some N) w w') :=
  (bws_ok N N (byteCells bs) s w h (by rw [Lib.byteCells_length]; exact hlen) (Nat.le_of_lt h.lt)).mono fun _ _ h => ⟨h.1, bf_str h.2.1, h.2.2⟩
theorem bwbF {N : Nat} {bs : List UInt8} {w : World} (h : BF N bs w) (hlen : bs.length + 1 ≤ 140737488355328) :
    Calls Tryd.prog 71 #[.pointer (some ⟨N, 0, none⟩), .int .u8 10] w fun e w' => e = .returned .nilIface ∧ (BF N (bs ++ [10]) w' ∧ Below N w w') :=
  (bwb_ok N N (byteCells bs) 10 w h (by rw [Lib.byteCells_length]; exact hlen) (Nat.le_of_lt h.lt)).mono fun _ _ h => ⟨h.1, bf_byte h.2.1, h.2.2.1⟩
theorem bstF {N : Nat} {bs : List UInt8} {w : World} (h : BF N bs w) :
    Calls Tryd.prog 72 #[.pointer (some ⟨N, 0, none⟩)] w fun e w' => e = .returned (.string ⟨bs.toArray⟩) ∧ Below N w w' :=
  (bst_ok N N bs w h (Nat.le_of_lt h.lt)).mono fun _ _ h => ⟨h.1, h.2.2.1⟩
theorem fmtF {v : Int} (h0 : 0 ≤ v) (h1 : v ≤ 1000000000000) {W : World} (hT : Lib.TabIs Tryd.prog W "internal/strconv.uint64pow10" .u64 Lib.pow10Tab) :
    Calls Tryd.prog 70 #[.int .i64 v, .int .i64 10] W fun e w' => e = .returned (.string ⟨(Lib.itoa v).toArray⟩) ∧ Below W.heap.size W w' :=
  (fmt_ok v h0 h1 W hT).mono fun _ _ h => ⟨h.1, by obtain ⟨k, os, hw⟩ := h.2; rw [hw]; exact Lib.below_grow _ _ (Nat.le_refl _) _ _⟩
theorem others_cells {w w' : World} {N k : Nat} {cs : Array Value} {T : TypeId} (h : Lib.OthersKept TU (some N) w w') (hk : w.heap[k]? = some (.cells cs T (0, 0))) (hn : k ≠ N) (hT : T ≠ TU) : w'.heap[k]? = some (.cells cs T (0, 0)) :=
  h k _ hk (fun e => hn (Option.some.inj e)) (fun _ _ e => by injection e with _ e2 _; exact hT e2)
theorem T3.below {W w1 w2 : World} {n b1 o1 b2 o2 b3 o3 : Nat} {v x y : Value} (s : Below n W w1 ∧ w1.cell? ⟨b1, o1, none⟩ = some v ∧ w1.cell? ⟨b2, o2, none⟩ = some x ∧ w1.cell? ⟨b3, o3, none⟩ = some y) (hb : Below w1.heap.size w1 w2) (hn : n ≤ W.heap.size := by exact Nat.le_refl _) : Below n W w2 ∧ w2.cell? ⟨b1, o1, none⟩ = some v ∧ w2.cell? ⟨b2, o2, none⟩ = some x ∧ w2.cell? ⟨b3, o3, none⟩ = some y :=
  ⟨s.1.trans (hb.mono (Nat.le_trans hn s.1.size)), cell_keep2 hb s.2.1, cell_keep2 hb s.2.2.1, cell_keep2 hb s.2.2.2⟩
theorem two_heap {w w' : World} {k : Nat} {cs : Array Value} {T : TypeId} (hk : w.heap[k]? = some (.cells cs T (0, 0))) (hb : Below w.heap.size w w') : w'.heap[k]? = some (.cells cs T (0, 0)) := (hb.block k (lt_block hk)).trans hk
theorem num_str (v : Int) : ((⟨#[32]⟩ : ByteArray) ++ (⟨(itoa v).toArray⟩ : ByteArray)).data.toList = 32 :: itoa v := by exact ByteArray.toList_data_append' ..
theorem str_size (s : ByteArray) : s.size = s.data.toList.length := rfl
theorem run_index4 (W : World) (v0 v1 v2 v3 : Int) {m : Nat} {v : Int} (hv : [v0, v1, v2, v3][m]? = some v) :
    (Instr.index 107 (.agg #[.int .i64 v0, .int .i64 v1, .int .i64 v2, .int .i64 v3]) (.int .i64 (m : Int))).run Tryd.prog W = .ok (.int .i64 v) W := by
  have hm : m < 4 := (List.getElem?_eq_some_iff.1 hv).1
  have hx : (#[.int .i64 v0, .int .i64 v1, .int .i64 v2, .int .i64 v3] : Array Value)[m]? = some (.int .i64 v) := by
    rcases (by omega : m = 0 ∨ m = 1 ∨ m = 2 ∨ m = 3) with rfl | rfl | rfl | rfl <;> (simp at hv; subst hv; rfl)
  have h1 : (0 : Int) ≤ (m : Int) ∧ (m : Int) < ((4 : Nat) : Int) := by omega
  have hz : (sizeOf 2).run Tryd.prog W = .ok 1 W := Tryd.sizeOf2 W
  have ha : (isAgg 2).run Tryd.prog W = .ok false W := Tryd.isAgg2 W
  have hx2 : ([.int .i64 v0, .int .i64 v1, .int .i64 v2, .int .i64 v3] : List Value)[m]? = some (.int .i64 v) := by simpa using hx
  simp [Instr.index, run_underlying Tryd.underlying107, asIntOf, h1, go_sem, hz, part, hm]
  simpa [hm] using hx2
/-- What a report reads. -/
structure RepD (AN AL : Option Addr) (cN cL : Nat) (ns : List ByteArray) (l : List Ser) (W : World) : Prop where
  nms : EAt enS 1 W AN cN ns
  srs : EAt enL 1 W AL cL l
  ser : ∀ x, x ∈ l → SAt W x.A x.c x.L
  tab : Lib.TabBelow Tryd.prog W.heap.size W "internal/strconv.uint64pow10" .u64 Lib.pow10Tab
  sz : ∀ j, j < l.length → (nm ns j).size ≤ 16
  len : ns.length = l.length
theorem names_sz {ns : List ByteArray} (h : ns.all nameS = true) : ∀ j, j < ns.length → (nm ns j).size ≤ 16 := by
  intro j hj
  have h1 := List.all_eq_true.1 h _ (List.mem_of_getElem? (nm_get hj))
  unfold nameS at h1
  simp only [Bool.and_eq_true, decide_eq_true_eq] at h1
  exact h1.2
set_option maxRecDepth 100000 in
set_option maxHeartbeats 4000000 in
theorem report_main (AN AL : Option Addr) (cN cL : Nat) (ns : List ByteArray) (l : List Ser) (f t : Int) (W : World) (hN : EAt enS 1 W AN cN ns) (hL : EAt enL 1 W AL cL l)
    (hS : ∀ x, x ∈ l → SAt W x.A x.c x.L) (hsz : ∀ s, s ∈ ns → s.size < 1099511627776) (hT : Lib.TabIs Tryd.prog W "internal/strconv.uint64pow10" .u64 Lib.pow10Tab)
    (g1 : l.length ≤ 20) (g2 : ns.length = l.length) (g3 : ns.all nameS = true) :
    Calls Tryd.prog 39 #[.slice AN ns.length cN, .slice AL l.length cL, .int .i64 f, .int .i64 t] W fun e w' => e = .returned (.tuple #[.string ⟨(repS ns l f t).1.toArray⟩, .int .i64 (repS ns l f t).2]) ∧ Below W.heap.size W w' := by
  have hcont := contS_ok AN cN ns W hN hsz
  rw [g3] at hcont
  have hD : RepD AN AL cN cL ns l W := ⟨hN, hL, hS, Lib.tabBelow_of_tabIs hT, fun j hj => names_sz g3 j (by omega), g2⟩
  have hR : repS ns l f t = if firstE l f t ≠ 0 then ([], firstE l f t) else (linesK ns l f t l.length, 0) := by
    have hC : chkR ns l f t = firstE l f t := by
      unfold chkR
      rw [if_neg (by omega), if_neg (by omega), if_neg (by simp [g3])]
    unfold repS
    rw [hC]
  obtain ⟨n, hn⟩ : ∃ n, n = l.length := ⟨_, rfl⟩
  have HC := Lib.hid hcont
  have HX := Lib.hid hD
  have HN := Lib.hid hn
  have HR := Lib.hid hR
  rw [g2, ← hn] at HC ⊢
  rw [← hn] at g1
  clear hN hL hS hsz hT hD g3 hn g2 hcont hR
  go_enter Tryd.func39, Tryd.ntmps39
  go_upto_region 7 with (go_at_call 65; refine HC.out.mono ?_; rintro e w1 ⟨rfl, q, hw⟩)
  have hU0 := BF.new (W.drewN q)
  have hbU : Below W.heap.size W ((W.drewN q).alloc (.cells #[.pointer none, .slice none 0 0] TB)) := (below_drewN (Below.refl W.heap.size W) (q := q)).alloc (Nat.le_refl _) _
  change BF W.heap.size [] _ at hU0
  obtain ⟨U, hU⟩ : ∃ U, U = (W.drewN q).alloc (.cells #[.pointer none, .slice none 0 0] TB) := ⟨_, rfl⟩
  rw [← hU] at hU0 hbU
  go_upto_region 8 with (fail)
  change Code.wp _ _ _ _ ((W.drewN q).alloc (.cells #[.pointer none, .slice none 0 0] TB))
  rw [← hU]
  have HU := Lib.hid (And.intro hU0 hbU)
  clear hU0 hbU hU hw
  go_wp2_with (fail)
  go_loopw [36] (fun i wr => ∃ k : Nat, k ≤ n ∧ i = .int .i64 (k : Int) ∧ BF W.heap.size (linesK ns l f t k) wr ∧ Below W.heap.size W wr ∧ ∀ j, j < k → Cov (ser l j).L f t) (fun i _ => n - (RowKit.intOf i).toNat)
  case atStart => exact ⟨0, Nat.zero_le _, rfl, HU.out.1, HU.out.2, fun j hj => absurd hj (Nat.not_lt_zero _)⟩
  case round =>
    obtain ⟨k, hk, rfl, hB, hb, hcv⟩ := hrel
    by_cases hlt : k < n
    · have hlti : (k : Int) < (n : Int) := by omega
      have hkl : k < l.length := by rw [← HN.out]; exact hlt
      obtain ⟨gl, ol, rfl, hgl, cl⟩ := HX.out.srs.one (f := fun x : Ser => .slice x.A x.L.length x.c) (ser_get hkl)
      obtain ⟨gn, on, rfl, hgn, cn⟩ := HX.out.nms.one (f := .string) (nm_get (show k < ns.length by rw [HX.out.len]; exact hkl))
      have hSx := HX.out.ser _ (List.mem_of_getElem? (ser_get hkl))
      have hnz := HX.out.sz k hkl
      replace cl := cell_keep2 hb cl
      replace cn := cell_keep2 hb cn
      have hline : linesK ns l f t (k + 1) = linesK ns l f t k ++ lineS (nm ns k) (ser l k).L f t := rfl
      have hlen := linesK_len (ns := ns) (l := l) (f := f) (t := t) k (fun j hj => ⟨HX.out.sz j (by omega), hcv j hj⟩)
      obtain ⟨sk, hsk⟩ : ∃ s, s = ser l k := ⟨_, rfl⟩
      rw [← hsk] at cl hSx hline
      obtain ⟨A, c, L⟩ := sk
      obtain ⟨nk, hnk⟩ : ∃ s, s = nm ns k := ⟨_, rfl⟩
      rw [← hnk] at cn hnz hline
      obtain ⟨pre, hpre⟩ : ∃ s, s = linesK ns l f t k := ⟨_, rfl⟩
      rw [← hpre] at hB hline hlen
      dsimp only at cl hSx hline
      have HL := Lib.hid (And.intro hline (And.intro hsk (And.intro hcv (And.intro hk hSx))))
      have HB := Lib.hid (And.intro hB hb)
      clear hline hsk hcv hB hb hnk hpre hSx
      by_cases he : askS L f t = 0
      · have hcov := ask_cov.1 he
        have hP := fun V (hV : Below W.heap.size W V) => peak_ok A c L f t V (HL.out.2.2.2.2.below hV (Nat.le_refl _))
        have hLo := fun V (hV : Below W.heap.size W V) => low_ok A c L f t V (HL.out.2.2.2.2.below hV (Nat.le_refl _))
        have hV := fun V (hV : Below W.heap.size W V) => value_ok A c L (t - 1) V (HL.out.2.2.2.2.below hV (Nat.le_refl _))
        have hA := fun V (hV : Below W.heap.size W V) => area_ok2 A c L f t hcov V (HL.out.2.2.2.2.below hV (Nat.le_refl _))
        have hokp := steps_ok hcov.ok (f := f) (t := t)
        have hsl := steps_len L f t
        have hln := hcov.ok.len
        have hM := fun V => mean_ok (areaV (stepsV L f t)) (t - f) V (area_ok hokp hcov.f0 hcov.t1 (by omega)) (by have := hcov.ft; omega) (by have := hcov.f0; have := hcov.t1; omega) (mean_bd hcov hcov.ok).2
        have hnb := nums_bd hcov
        have e1 : (extS gt L f t).2 = 0 := by unfold extS; rw [if_neg (by rw [he]; simp)]
        have e2 : (extS lt L f t).2 = 0 := by unfold extS; rw [if_neg (by rw [he]; simp)]
        have hline := HL.out.1
        unfold lineS nums at hline
        unfold nums at hnb
        unfold meanS at hline hnb
        have hf0 := hcov.f0
        have hft := hcov.ft
        have ht1 := hcov.t1
        rw [e1] at hP
        rw [e2] at hLo
        clear e1 e2 hsl hln hokp
        have HCV := Lib.hid hcov
        clear hcov
        generalize (areaV (stepsV L f t)).val / (t - f) = v3 at *
        generalize areaV (stepsV L f t) = ar at *
        generalize (extS gt L f t).1.a = pa at *
        generalize (extS gt L f t).1.v = v1 at *
        generalize (extS lt L f t).1.a = la at *
        generalize (extS lt L f t).1.v = v2 at *
        generalize (valS L (t - 1)).1 = v0 at *
        generalize (valS L (t - 1)).2 = ve at *
        have HL2 := Lib.hid (And.intro hline hnb)
        have HCA := Lib.hid (And.intro hP (And.intro hLo (And.intro hV (And.intro hA hM))))
        clear hline hnb hP hLo hV hA hM
        obtain ⟨wo, hwo⟩ : ∃ w, w = wr := ⟨_, rfl⟩
        subst hwo
        have hp1 : (wo.alloc (.cells #[.slice A L.length c] 24)).heap[wo.heap.size]? = some (.cells #[.slice A L.length c] 24 (0, 0)) := new_at _ _
        have hbx := below_box wo (.cells #[.slice A L.length c] 24)
        replace cn := cell_keep2 hbx cn
        have hbB := HB.out.1.below hbx (Nat.le_refl _)
        have hbW := HB.out.2.trans (hbx.mono HB.out.2.size)
        have hNp := HB.out.1.lt
        go_upto_region 11 with (fail)
        obtain ⟨p, hp⟩ : ∃ p, p = wo.heap.size := ⟨_, rfl⟩
        rw [← hp] at hp1 hNp ⊢
        generalize wo.alloc (.cells #[.slice A L.length c] 24) = V1 at *
        have s0 := one_at hp1
        have H1 := Lib.hid (And.intro hp1 (And.intro hbB (And.intro hbW hNp)))
        clear hp1 hbx hbB hbW hp hNp HB
        go_upto_region 12 with (go_at_call 21; refine (HCA.out.1 _ H1.out.2.2.1).mono ?_; rintro e w2 ⟨rfl, hb2⟩; have H2 := Lib.hid hb2; clear hb2)
        have hx2 := below_box w2 (.cells #[.int .i64 pa, .int .i64 v1] 49)
        have hb2 := H2.out.trans (hx2.mono H2.out.size)
        have hq1 : (w2.alloc (.cells #[.int .i64 pa, .int .i64 v1] 49)).heap[w2.heap.size]? = some (.cells #[.int .i64 pa, .int .i64 v1] 49 (0, 0)) := new_at _ _
        have hNq : W.heap.size < w2.heap.size := Nat.lt_of_lt_of_le (lt_block H1.out.1 |> Nat.lt_of_le_of_lt (Nat.le_of_lt H1.out.2.2.2)) H2.out.size
        obtain ⟨q1, hqe⟩ : ∃ q, q = w2.heap.size := ⟨_, rfl⟩
        rw [← hqe] at hq1 hNq ⊢
        generalize w2.alloc (.cells #[.int .i64 pa, .int .i64 v1] 49) = V2 at *
        replace cn := cell_keep2 hb2 cn
        have hp2 := two_heap H1.out.1 hb2
        replace s0 := one_at hp2
        have hB2 := H1.out.2.1.below hb2 (Nat.le_refl _)
        have hW2 := H1.out.2.2.1.trans (hb2.mono H1.out.2.2.1.size)
        have H3 := Lib.hid (And.intro hp2 (And.intro hq1 (And.intro hB2 (And.intro hW2 (And.intro H1.out.2.2.2 hNq)))))
        clear hx2 hb2 hq1 hNq hqe hp2 hB2 hW2 H1 H2
        go_upto_region 15 with (go_at_call 26; refine (HCA.out.2.1 _ H3.out.2.2.2.1).mono ?_; rintro e w3 ⟨rfl, hb3⟩; have H4 := Lib.hid hb3; clear hb3)
        have hx3 := below_box w3 (.cells #[.int .i64 la, .int .i64 v2] 49)
        have hb3 := H4.out.trans (hx3.mono H4.out.size)
        have hq2 : (w3.alloc (.cells #[.int .i64 la, .int .i64 v2] 49)).heap[w3.heap.size]? = some (.cells #[.int .i64 la, .int .i64 v2] 49 (0, 0)) := new_at _ _
        have hNq : W.heap.size < w3.heap.size := Nat.lt_of_lt_of_le (lt_block H3.out.1 |> Nat.lt_of_le_of_lt (Nat.le_of_lt H3.out.2.2.2.2.1)) H4.out.size
        obtain ⟨q2, hqe⟩ : ∃ q, q = w3.heap.size := ⟨_, rfl⟩
        rw [← hqe] at hq2 hNq ⊢
        generalize w3.alloc (.cells #[.int .i64 la, .int .i64 v2] 49) = V3 at *
        replace cn := cell_keep2 hb3 cn
        have hp3 := two_heap H3.out.1 hb3
        have hq3 := two_heap H3.out.2.1 hb3
        replace s0 := one_at hp3
        have hB3 := H3.out.2.2.1.below hb3 (Nat.le_refl _)
        have hW3 := H3.out.2.2.2.1.trans (hb3.mono H3.out.2.2.2.1.size)
        have H5 := Lib.hid (And.intro hp3 (And.intro hq3 (And.intro hq2 (And.intro hB3 (And.intro hW3 (And.intro H3.out.2.2.2.2.1 (And.intro H3.out.2.2.2.2.2 hNq)))))))
        clear hx3 hb3 hq2 hNq hqe hp3 hq3 hB3 hW3 H3 H4
        go_upto_region 16 with (go_at_call 34; refine (HCA.out.2.2.1 _ H5.out.2.2.2.2.1).mono ?_; rintro e w4 ⟨rfl, hb4⟩; replace cn := cell_keep2 hb4 cn; have H6 := Lib.hid hb4; clear hb4 s0)
        have hp4 := two_heap H5.out.1 H6.out
        have hq4 := two_heap H5.out.2.1 H6.out
        have hr4 := two_heap H5.out.2.2.1 H6.out
        have hB4 := H5.out.2.2.2.1.below H6.out (Nat.le_refl _)
        have hW4 := H5.out.2.2.2.2.1.trans (H6.out.mono H5.out.2.2.2.2.1.size)
        have H7 := Lib.hid (And.intro hp4 (And.intro hq4 (And.intro hr4 (And.intro hB4 (And.intro hW4 H5.out.2.2.2.2.2)))))
        clear hp4 hq4 hr4 hB4 hW4 H5 H6
        have hl1 : pre.length + nk.size ≤ 140737488355328 := by omega
        go_upto_region 17 with (go_at_call 68; refine (bwsF H7.out.2.2.2.1 hl1).mono ?_; rintro e w5 ⟨rfl, hB5, hb5, ho5⟩; have H8 := Lib.hid (And.intro hB5 (And.intro (H7.out.2.2.2.2.1.trans hb5) ho5)); clear hB5 hb5 ho5 cn)
        have hp5 := others_cells H8.out.2.2 H7.out.1 (by have := H7.out.2.2.2.2.2.1; omega) (by decide)
        have hq5 := others_cells H8.out.2.2 H7.out.2.1 (by have := H7.out.2.2.2.2.2.2.1; omega) (by decide)
        have hr5 := others_cells H8.out.2.2 H7.out.2.2.1 (by have := H7.out.2.2.2.2.2.2.2; omega) (by decide)
        have s1 : Below w5.heap.size w5 w5.drew ∧ w5.drew.cell? ⟨p, 0, none⟩ = some (.slice A L.length c) ∧ w5.drew.cell? ⟨q1, 1, none⟩ = some (.int .i64 v1) ∧ w5.drew.cell? ⟨q2, 1, none⟩ = some (.int .i64 v2) := ⟨(Below.refl _ _).drew, one_at hp5, (two_at hq5).2, (two_at hr5).2⟩
        have HAR := Lib.hid (fun V (hV : Below w5.heap.size w5 V) => HCA.out.2.2.2.1 V (H8.out.2.1.trans (hV.mono H8.out.2.1.size)))
        have HME := Lib.hid HCA.out.2.2.2.2
        have wft : IntKind.i64.wrap (t - f) = t - f := IntWalk.i64_in _ (by omega)
        have hrun : Below w5.heap.size w5 w5.drew := (Below.refl _ _).drew
        have wft2 : wrap64 (t - f) = t - f := IntWalk.wrap64_in _ (by omega)
        clear hp5 hq5 hr5 HCA H7
        go_region_held3 (fun w' => Below w5.heap.size w5 w' ∧ w'.cell? ⟨p, 0, none⟩ = some (.slice A L.length c) ∧ w'.cell? ⟨q1, 1, none⟩ = some (.int .i64 v1) ∧ w'.cell? ⟨q2, 1, none⟩ = some (.int .i64 v2))
          (first | assumption | exact T3.below (by assumption) hb6 | exact T3.below (by assumption) hb7)
          (first | (go_at_call 41; ((with_reducible refine (HAR.out _ (And.left (by assumption))).mono ?_); rintro e w6 ⟨rfl, hb6⟩; replace hrun := hrun.trans (hb6.mono hrun.size))) | (go_at_call 69; ((with_reducible refine (HME.out _).mono ?_); rintro e w7 ⟨rfl, hb7⟩; replace hrun := hrun.trans (hb7.mono hrun.size))))
        all_goals
          have hB7 := H8.out.1.below hrun (Nat.le_refl _)
          have hW7 := H8.out.2.1.trans (hrun.mono H8.out.2.1.size)
          have HQ := Lib.hid (And.intro hB7 hW7)
          clear hB7 hW7 hrun hb6 hb7 H8 HAR HME wft wft2 s1
          go_wp2_with (fail)
          go_loopw [84] (fun i wr => ∃ m : Nat, m ≤ 4 ∧ i = .int .i64 (m : Int) ∧ BF W.heap.size (pre ++ nk.data.toList ++ numsB ([v0, v1, v2, v3].take m)) wr ∧ Below W.heap.size W wr) (fun i _ => 4 - (RowKit.intOf i).toNat)
          case atStart => exact ⟨0, by omega, rfl, by simpa [numsB] using HQ.out.1, HQ.out.2⟩
          case round =>
            obtain ⟨m, hm, rfl, hBm, hbm⟩ := hrel
            have hpl : pre.length + nk.size + (numsB ([v0, v1, v2, v3].take m)).length ≤ 100000 := by
              have h1 := numsB_len (l := [v0, v1, v2, v3].take m) (fun v hv => HL2.out.2 v (List.mem_of_mem_take hv))
              have h2 : ([v0, v1, v2, v3].take m).length ≤ 4 := by simp; omega
              omega
            have hW0 : ∀ v, v ∈ [v0, v1, v2, v3] → ∀ V, Below W.heap.size W V → Calls Tryd.prog 70 #[.int .i64 v, .int .i64 10] V fun e w' => (∃ s : ByteArray, e = .returned (.string s) ∧ s.size ≤ 13 ∧ s = ⟨(Lib.itoa v).toArray⟩) ∧ Below V.heap.size V w' := fun v hv V hV => (fmtF (HL2.out.2 v hv).1 (HL2.out.2 v hv).2 (HX.out.tab V hV)).mono fun _ _ h => ⟨⟨_, h.1, itoa_len (HL2.out.2 v hv).1 (HL2.out.2 v hv).2, rfl⟩, h.2⟩
            have hW1 : ∀ v s, [v0, v1, v2, v3][m]? = some v → s = ⟨(Lib.itoa v).toArray⟩ → ∀ V, BF W.heap.size (pre ++ nk.data.toList ++ numsB ([v0, v1, v2, v3].take m)) V → Calls Tryd.prog 68 #[.pointer (some ⟨W.heap.size, 0, none⟩), .string ((⟨#[32]⟩ : ByteArray) ++ s)] V fun e w' => (∃ z : Int, e = .returned (.tuple #[.int .i64 z, .nilIface])) ∧ BF W.heap.size (pre ++ nk.data.toList ++ numsB ([v0, v1, v2, v3].take (m + 1))) w' ∧ Below W.heap.size V w' := fun v s hv hs V hB => by
              subst hs
              have hv2 := HL2.out.2 v (List.mem_of_getElem? hv)
              have hil := itoa_len hv2.1 hv2.2
              refine (bwsF hB ?_).mono ?_
              · have h1 : (pre ++ nk.data.toList ++ numsB ([v0, v1, v2, v3].take m)).length = pre.length + nk.size + (numsB ([v0, v1, v2, v3].take m)).length := by rw [List.length_append, List.length_append]; rfl
                have h2 : ((⟨#[32]⟩ : ByteArray) ++ (⟨(itoa v).toArray⟩ : ByteArray)).size = (itoa v).length + 1 := by rw [str_size, num_str, List.length_cons]
                rw [h1, h2]
                omega
              · rintro e w' ⟨rfl, h1, h2, _⟩
                rw [num_str, List.append_assoc, ← numsB_next hv] at h1
                exact ⟨⟨_, rfl⟩, h1, h2⟩
            have HF := Lib.hid hW0
            have HW := Lib.hid hW1
            have HBM := Lib.hid (And.intro hBm hbm)
            clear hpl hW0 hW1 hBm hbm
            by_cases hm4 : m < 4
            · have hm4i : (m : Int) < 4 := by omega
              obtain ⟨v, hv⟩ : ∃ v, [v0, v1, v2, v3][m]? = some v := ⟨_, List.getElem?_eq_getElem (by simpa using hm4)⟩
              have hix := fun W => run_index4 W v0 v1 v2 v3 hv
              have HV := Lib.hid hv
              clear hv
              go_wp2_with (first | (go_at_call 70; refine (HF.out v (List.mem_of_getElem? HV.out) _ HBM.out.2).mono ?_; rintro e w8 ⟨⟨s8, rfl, hs8, he8⟩, hb8⟩; have HS8 := Lib.hid he8; clear he8) | (go_at_call 68; refine (HW.out v s8 HV.out HS8.out _ (HBM.out.1.below hb8 (Nat.le_refl _))).mono ?_; rintro e w9 ⟨⟨z, rfl⟩, hB9, hb9⟩))
              go_roundw
              case rel => exact ⟨m + 1, by omega, by go_num, hB9, (HBM.out.2.trans (hb8.mono HBM.out.2.size)).trans hb9⟩
              case measure => simp [RowKit.intOf]; omega
            · obtain rfl : m = 4 := by omega
              go_upto_region 22 with (fail)
              have hlb : (pre ++ nk.data.toList ++ numsB [v0, v1, v2, v3]).length + 1 ≤ 140737488355328 := by
                have h1 := numsB_len (l := [v0, v1, v2, v3]) HL2.out.2
                have h2 : (pre ++ nk.data.toList ++ numsB [v0, v1, v2, v3]).length = pre.length + nk.size + (numsB [v0, v1, v2, v3]).length := by rw [List.length_append, List.length_append]; rfl
                simp only [List.length_cons, List.length_nil] at h1
                rw [h2]; omega
              have HE := Lib.hid (bwbF HBM.out.1 hlb)
              have hl2 : linesK ns l f t (k + 1) = pre ++ nk.data.toList ++ numsB [v0, v1, v2, v3] ++ [10] := by rw [HL2.out.1]; simp only [List.append_assoc]
              have HL3 := Lib.hid hl2
              clear hlb hl2
              go_wp2_with (go_at_call 71; refine HE.out.mono ?_; rintro e w9 ⟨rfl, hB9, hb9⟩)
              go_roundw
              case rel => exact ⟨k + 1, by omega, by go_num, by rw [HL3.out]; exact hB9, HBM.out.2.trans hb9, fun j hj => by
                rcases Nat.lt_succ_iff_lt_or_eq.1 hj with h1 | rfl
                · exact HL.out.2.2.1 j h1
                · rw [← HL.out.2.1]; exact HCV.out⟩
              case measure => simp [RowKit.intOf]; omega
      · have hP := fun V (hV : Below W.heap.size W V) => peak_ok A c L f t V (HL.out.2.2.2.2.below hV (Nat.le_refl _))
        have e1 : (extS gt L f t).2 = askS L f t := by unfold extS; rw [if_pos he]
        have hfe := firstE_at hkl (fun j hj => ask_cov.2 (HL.out.2.2.1 j hj)) (f := f) (t := t) (by rw [← HL.out.2.1]; exact he)
        rw [← HL.out.2.1] at hfe
        dsimp only at hfe
        rw [e1] at hP
        have hRe : repS ns l f t = ([], askS L f t) := by rw [HR.out, hfe, if_pos he]
        have HP := Lib.hid hP
        have HRe := Lib.hid hRe
        have hne : ((askS L f t) == 0) = false := by simpa using he
        generalize askS L f t = er at *
        clear hP e1 hfe hRe
        have hbx := below_box wr (.cells #[.slice A L.length c] 24)
        have hbW := HB.out.2.trans (hbx.mono HB.out.2.size)
        go_upto_region 11 with (fail)
        have s0 := one_at (new_at wr (.cells #[.slice A L.length c] 24))
        generalize wr.alloc (.cells #[.slice A L.length c] 24) = V1 at *
        have HV := Lib.hid hbW
        clear hbx hbW
        go_wp2_with (go_at_call 21; refine (HP.out _ HV.out).mono ?_; rintro e w2 ⟨rfl, hb2⟩)
        go_ret2
        exact ⟨by rw [HRe.out]; rfl, (HV.out.trans (hb2.mono HV.out.size)).alloc (Nat.le_trans HV.out.size hb2.size) _⟩
    · obtain rfl : k = n := by omega
      go_upto_region 24 with (fail)
      have hRe : repS ns l f t = (linesK ns l f t k, 0) := by
        rw [HR.out, if_neg (by rw [firstE_none fun j hj => ask_cov.2 (hcv j (by rw [HN.out]; exact hj))]; simp), ← HN.out]
      have HE := Lib.hid (bstF hB)
      have HRe := Lib.hid hRe
      have HB := Lib.hid hb
      clear hRe hB hb hcv
      go_wp2_with (go_at_call 72; refine HE.out.mono ?_; rintro e w9 ⟨rfl, hb9⟩)
      go_ret2
      exact ⟨by rw [HRe.out]; rfl, HB.out.trans hb9⟩
end Sx
end Go.Proofs.YtionocafkaemiaaDoor
namespace Go.Proofs.YtionocafkaemiaaDoor
open Go.Shelf Go.RowKit Go.Lib
namespace Sx
attribute [local irreducible] wpQuiet
set_option maxRecDepth 100000 in
set_option maxHeartbeats 4000000 in
theorem report_ok (AN AL : Option Addr) (cN cL : Nat) (ns : List ByteArray) (l : List Ser) (f t : Int) (W : World) (hN : EAt enS 1 W AN cN ns) (hL : EAt enL 1 W AL cL l)
    (hS : ∀ x, x ∈ l → SAt W x.A x.c x.L) (hsz : ∀ s, s ∈ ns → s.size < 1099511627776) (hT : Lib.TabIs Tryd.prog W "internal/strconv.uint64pow10" .u64 Lib.pow10Tab) :
    Calls Tryd.prog 39 #[.slice AN ns.length cN, .slice AL l.length cL, .int .i64 f, .int .i64 t] W fun e w' => e = .returned (.tuple #[.string ⟨(repS ns l f t).1.toArray⟩, .int .i64 (repS ns l f t).2]) ∧ Below W.heap.size W w' := by
  have hl1 := hN.1
  have hl2 := hN.2.1
  have hl3 := hL.1
  have hl4 := hL.2.1
  unfold maxLen at hl2 hl4
  by_cases g1 : l.length ≤ 20
  · by_cases g2 : ns.length = l.length
    · by_cases g3 : ns.all nameS = true
      · exact report_main AN AL cN cL ns l f t W hN hL hS hsz hT g1 g2 g3
      · rw [Bool.not_eq_true] at g3
        have hcont := contS_ok AN cN ns W hN hsz
        rw [g3] at hcont
        have hR : repS ns l f t = ([], 6) := by
          have hC : chkR ns l f t = 6 := by
            unfold chkR
            rw [if_neg (by omega), if_neg (by omega), if_pos g3]
          unfold repS
          rw [hC]; rfl
        rw [hR]
        rw [g2] at hcont ⊢
        obtain ⟨n, hn⟩ : ∃ n, n = l.length := ⟨_, rfl⟩
        rw [← hn] at hcont g1 ⊢
        have HC := Lib.hid hcont
        clear hcont hR g3 g2 hN hL hS hsz hT hn hl1 hl2 hl3 hl4
        go_enter Tryd.func39, Tryd.ntmps39
        go_wp2_with (go_at_call 65; refine HC.out.mono ?_; rintro e w1 ⟨rfl, q, hw⟩; subst hw)
        go_ret2
        exact ⟨rfl, below_drewN (Below.refl _ _) q⟩
    · have hR : repS ns l f t = ([], 2) := by
        have hC : chkR ns l f t = 2 := by
          unfold chkR
          rw [if_neg (by omega), if_pos g2]
        unfold repS
        rw [hC]; rfl
      rw [hR]
      obtain ⟨n, hn⟩ : ∃ n, n = l.length := ⟨_, rfl⟩
      obtain ⟨m, hm⟩ : ∃ n, n = ns.length := ⟨_, rfl⟩
      rw [← hn] at g1 g2 ⊢
      rw [← hm] at g2 ⊢
      have g2i : ((m : Int) == (n : Int)) = false := by simpa using fun h : (m : Int) = n => g2 (by omega)
      have g2j : ((m : Int) != (n : Int)) = true := by rw [bne, g2i]; rfl
      have g2k : decide ((m : Int) = (n : Int)) = false := decide_eq_false (by omega)
      clear hR hN hL hS hsz hT hn hm hl1 hl2 hl3 hl4 g2
      go_enter Tryd.func39, Tryd.ntmps39
      go_wp2_with (fail)
      go_ret2
      exact ⟨rfl, Below.refl _ _⟩
  · have hR : repS ns l f t = ([], 3) := by
      have hC : chkR ns l f t = 3 := by
        unfold chkR
        rw [if_pos (by omega)]
      unfold repS
      rw [hC]; rfl
    rw [hR]
    obtain ⟨n, hn⟩ : ∃ n, n = l.length := ⟨_, rfl⟩
    rw [← hn] at g1 ⊢
    have g1i : (20 : Int) < (n : Int) := by omega
    clear hR hN hL hS hsz hT hn hl1 hl2 hl3 hl4 g1
    go_enter Tryd.func39, Tryd.ntmps39
    go_wp2_with (fail)
    go_ret2
    exact ⟨rfl, Below.refl _ _⟩
end Sx
end Go.Proofs.YtionocafkaemiaaDoor
