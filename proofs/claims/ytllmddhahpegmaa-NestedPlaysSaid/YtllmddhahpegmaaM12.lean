/- slices.Contains on integers; slices.Values and its closure. The closure of slices.Values at integers. The closure of Below. -/
import Derived.Test.YtllmddhahpegmaaM11
namespace Go.Proofs.Ytllmddhahpegmaa
open Go.RowKit
namespace Ne

/-- The cells of a row of numbers. -/
theorem nints_cell {w : World} {B n : Nat} {A : Option Addr} {c : Nat} {l : List Nat} (h : w.ownsRow B 3 1 (.slice A n c) n (nints l)) (hn : l.length = n) (j a : Nat) (hj : l[j]? = some a) :
    ∃ g, A = some ⟨g, 0, none⟩ ∧ B ≤ g ∧ g < w.heap.size ∧ w.cell? ⟨g, j, none⟩ = some (.int .i64 (a : Int)) := by
  have hjl := (List.getElem?_eq_some_iff.1 hj).1
  rcases h.2 with ⟨_, e2⟩ | ⟨g5, cap, _, e1, e0, e2, _⟩
  · omega
  · injection e1 with e1 e3 e4
    subst e1 e4
    have hc := h.cellAt j (by simp [nints]; omega)
    rw [nints, List.getElem?_map, hj] at hc
    exact ⟨g5, rfl, e0, lt_of_heap e2, hc⟩

theorem row_le {w : World} {B n : Nat} {A : Option Addr} {c : Nat} {xs : List Value} (h : w.ownsRow B 3 1 (.slice A n c) n xs) : n ≤ c ∧ c ≤ maxLen := by
  rcases h.2 with ⟨e1, e2⟩ | ⟨g, cap, _, e1, _, _, e3, e4, _⟩
  · injection e1 with e0 e1 e2
    subst e2
    exact ⟨by omega, Nat.zero_le _⟩
  · injection e1 with e0 e1 e2
    subst e2
    exact ⟨e3, e4⟩

set_option maxHeartbeats 1000000 in
theorem indexI_ok (w : World) (B : Nat) (A : Option Addr) (c : Nat) (l : List Nat) (k : Int) (h : w.ownsRow B 3 1 (.slice A l.length c) l.length (nints l)) :
    Calls Try.prog 67 #[.slice A l.length c, .int .i64 k] w fun e w' => (∃ i : Int, e = .returned (.int .i64 i) ∧ (0 ≤ i ↔ ∃ a ∈ l, (a : Int) = k)) ∧ w = w' := by
  obtain ⟨hlc, hcm⟩ := row_le h
  unfold maxLen at hcm
  have HC := Lib.hid fun j a => nints_cell h rfl j a
  clear h
  generalize hn : l.length = n at *
  have HN := Lib.hid hn
  clear hn
  go_enter Try.func67, Try.ntmps67
  go_wp2
  go_loop [5, 8] (fun _ i => ∃ j : Nat, j ≤ n ∧ i = .int .i64 j ∧ ∀ m a, m < j → l[m]? = some a → (a : Int) ≠ k) (fun _ i => n - (intOf i).toNat)
  case atStart => exact ⟨0, Nat.zero_le _, rfl, fun m a hm => by omega⟩
  case round =>
    obtain ⟨j, hj, rfl, hno⟩ := hrel
    have HNo := Lib.hid hno
    clear hno
    by_cases hjl : j < n
    · obtain ⟨a, ha⟩ : ∃ a, l[j]? = some a := ⟨_, List.getElem?_eq_getElem (by rw [HN.out]; exact hjl)⟩
      obtain ⟨g, rfl, _, _, hc⟩ := HC.out j a ha
      have HA := Lib.hid ha
      clear ha
      by_cases hk : k = (a : Int)
      · have hb : (k == (a : Int)) = true := by rw [beq_iff_eq]; exact hk
        have HK := Lib.hid hk
        clear hk
        go_wp2
        go_ret
        exact ⟨⟨j, rfl, by constructor; (intro _; exact ⟨a, List.mem_of_getElem? HA.out, HK.out.symm⟩); (intro _; omega)⟩, rfl⟩
      · have hb : (k == (a : Int)) = false := by rw [beq_eq_false_iff_ne]; exact hk
        have HK := Lib.hid hk
        clear hk
        go_wp2
        go_round
        case rel =>
          refine ⟨j + 1, by omega, by go_num, fun m b hm hb' => ?_⟩
          by_cases e : m = j
          · subst e
            rw [HA.out] at hb'
            injection hb' with hb'
            subst hb'
            exact fun x => HK.out x.symm
          · exact HNo.out m b (by omega) hb'
        case measure => simp [intOf]; omega
    · obtain rfl : j = n := by omega
      go_wp2
      go_ret
      refine ⟨⟨-1, rfl, by constructor; (intro x; omega); rintro ⟨a, ha, e⟩; obtain ⟨m, hm⟩ := List.getElem?_of_mem ha; exact absurd e (HNo.out m a (by have := (List.getElem?_eq_some_iff.1 hm).1; have := HN.out; omega) hm)⟩, rfl⟩

open Classical in
theorem contains_ok (w : World) (B : Nat) (A : Option Addr) (c : Nat) (l : List Nat) (k : Int) (h : w.ownsRow B 3 1 (.slice A l.length c) l.length (nints l)) :
    Calls Try.prog 56 #[.slice A l.length c, .int .i64 k] w fun e w' => e = .returned (.bool (decide (∃ a ∈ l, (a : Int) = k))) ∧ w = w' := by
  have HI := Lib.hid (indexI_ok w B A c l k h)
  clear h
  obtain ⟨b, hb⟩ : ∃ b, b = decide (∃ a ∈ l, (a : Int) = k) := ⟨_, rfl⟩
  rw [← hb]
  have HB := Lib.hid hb
  clear hb
  go_enter Try.func56, Try.ntmps56
  go_wp2_with (go_at_call 67; fail)
  refine HI.out.mono ?_
  rintro e w1 ⟨⟨i, rfl, hi⟩, rfl⟩
  have hbb : decide (0 ≤ i) = b := by rw [HB.out]; exact decide_eq_decide.2 hi
  have HBB := Lib.hid hbb
  clear hi hbb
  go_wp2
  go_ret
  refine ⟨?_, rfl⟩
  rw [← HBB.out]; rfl

/-- slices.Values. -/
theorem values_ok (w : World) (A : Option Addr) (m c : Nat) :
    Calls Try.prog 57 #[.slice A m c] w fun e w' => e = .returned (.func (.func 68) #[] #[.pointer (some ⟨w.heap.size, 0, none⟩)]) ∧ w' = w.alloc (.cells #[.slice A m c] 36) := by
  go_enter Try.func57, Try.ntmps57
  go_wp2
  go_ret
  exact ⟨rfl, rfl⟩
end Ne
end Go.Proofs.Ytllmddhahpegmaa
namespace Go.Proofs.Ytllmddhahpegmaa
open Go.RowKit Go.Shelf
namespace Ne
attribute [local go_sem] Oper.semAt_some

theorem take_next {l : List Nat} {k a : Nat} (h : l[k]? = some a) : l.take (k + 1) = l.take k ++ [a] := by
  rw [List.take_add_one, h]; rfl

def RowHas (l : List Nat) (A : Option Addr) (W : World) : Prop := ∀ (j a : Nat), l[j]? = some a → ∃ g, A = some ⟨g, 0, none⟩ ∧ W.cell? ⟨g, j, none⟩ = some (.int .i64 (a : Int))

set_option maxRecDepth 100000 in
set_option maxHeartbeats 2000000 in
theorem valseq (F : Fence) (n : Nat) (hF : F.fn 68) (hro : F.round = none) (hn : 1 ≤ n) (Bs : Nat) (A : Option Addr) (c : Nat) (L : List Nat) (hlc : L.length ≤ 64) :
    SeqY F n Try.prog 68 #[.pointer (some ⟨Bs, 0, none⟩)] (fun a : Nat => #[.int .i64 (a : Int)]) (fun W => Bs < W.heap.size ∧ W.cell? ⟨Bs, 0, none⟩ = some (.slice A L.length c) ∧ RowHas L A W)
      (fun k => k = Bs ∨ (Value.slice A L.length c).ownBlock = some k) (fun xs => xs = L) (fun _ => True) L.length := by
  intro l J Jx own0 W ⟨hbs, hD, hrow⟩ hR hf hFJ hFJx hY h0
  have HR := Lib.hid hrow
  have HY := Lib.hid hY
  have HOR := Lib.hid hR
  clear hrow hY hR
  generalize hLn : L.length = N at *
  have HN := Lib.hid hLn
  clear hLn
  refine callsIn_of_wp Try.func68 rfl hF ?_ hro
  simp only [Try.ntmps68, List.size_toArray, List.length_cons, List.length_nil, Nat.reduceAdd, Nat.reduceSub, Array.replicate_succ, Array.replicate_zero, List.push_toArray, List.append_toArray, List.nil_append, List.cons_append]
  gi_wp2
  gi_loopw [7] (fun i wr => ∃ (k : Nat) (own : Ow), k ≤ N ∧ i = .int .i64 k ∧ J own (L.take k) wr ∧ Keeps own0 own W wr) (fun i _ => N - (intOf i).toNat)
  case atStart => exact ⟨0, own0, Nat.zero_le _, rfl, h0, Keeps.refl _ _⟩
  case round =>
    obtain ⟨k, own, hk, rfl, hJ, hK⟩ := hrel
    by_cases hlt : k < N
    · obtain ⟨a, ha⟩ : ∃ a, L[k]? = some a := ⟨_, List.getElem?_eq_getElem (by rw [HN.out]; exact hlt)⟩
      obtain ⟨g, rfl, hc⟩ := HR.out k a ha
      have hc' : wr.cell? ⟨g, k, none⟩ = some (.int .i64 (a : Int)) := (World.cell?_of_block (a := ⟨g, k, none⟩) (hK.block g (World.block_lt_of_cell? _ (a := ⟨g, k, none⟩) hc) (HOR.out g (.inr rfl)))).trans hc
      obtain ⟨fn, tmps, assign, body, hy, hRd⟩ := HY.out own (L.take k) a wr hJ (hf.keeps hK) (by simp; have := HN.out; omega)
      have HJ := Lib.hid (And.intro hJ (And.intro hK ha))
      clear hJ hK ha hc
      gi_wp2
      refine hRd.mono ?_
      rintro e W3 ⟨own3, hK3, (⟨rfl, hJ3⟩ | ⟨rfl, hJ3⟩)⟩
      · have H3 := Lib.hid (And.intro hJ3 hK3)
        clear hJ3 hK3
        gi_wp2
        go_roundw
        case rel => exact ⟨k + 1, own3, by omega, by go_num, by rw [take_next HJ.out.2.2]; exact H3.out.1, HJ.out.2.1.trans H3.out.2⟩
        case measure => simp [intOf]; omega
      · have H3 := Lib.hid (And.intro hJ3 hK3)
        clear hJ3 hK3
        gi_wp2
        refine bodyPost_ret (results_none rfl _ _ _) rfl ?_
        exact ⟨⟨_, rfl⟩, own3, HJ.out.2.1.trans H3.out.2, .inr ⟨_, trivial, H3.out.1⟩⟩
    · obtain rfl : k = N := by omega
      have HJ := Lib.hid (And.intro hJ hK)
      clear hJ hK
      gi_wp2
      go_end0
      exact ⟨⟨_, rfl⟩, own, HJ.out.2, .inl ⟨_, rfl, by have := HJ.out.1; rwa [List.take_of_length_le (by rw [HN.out]; exact Nat.le_refl _)] at this⟩⟩
end Ne
end Go.Proofs.Ytllmddhahpegmaa
namespace Go.Proofs.Ytllmddhahpegmaa
open Go.RowKit Go.Shelf
namespace Ne
attribute [local go_sem] Oper.semAt_some

theorem yieldAt_any {m l l2 : Nat} (m' : Nat) {P : Program} {args : Array Value} {W : World} {R : Ending → World → Prop} (h : YieldAt Fence.wide m P l args W R) : YieldAt (Fence.wide.inRound l2) m' P l args W R := by
  obtain ⟨fn, tmps, assign, body, hy, hR⟩ := h
  exact ⟨fn, tmps, assign, body, hy, ⟨hR.1, fun c cs _ => hR.2 c cs (fun d h => by cases h)⟩⟩

theorem row_below {w w' : World} {B e s n : Nat} {v : Value} {xs : List Value} (h : w.ownsRow B e s v n xs) (hb : Below w.heap.size w w') : w'.ownsRow B e s v n xs := by
  refine ⟨h.1, ?_⟩
  rcases h.2 with hn | ⟨g, cap, cur, rfl, hB, hgg, rest⟩
  · exact .inl hn
  · exact .inr ⟨g, cap, cur, rfl, hB, by rw [hb.block g (lt_of_heap hgg)]; exact hgg, rest⟩

theorem under_none {M : Tr} (h : Good M) {k : Int} (hf : find M k = none) (m : Nat) : Under M k m [] := by
  refine ⟨.nil, fun i => ⟨fun x => by simp at x, ?_⟩⟩
  rintro ⟨_, ho, h0, hA⟩
  obtain ⟨q, hq⟩ := anc_opn h hA ho
  unfold find at hf
  rw [if_neg (by omega), hq] at hf
  cases hf

/-- What the rest of the closure owes, behind what it collected. -/
theorem under_step {M : Tr} {k : Int} {j : Nat} {l L : List Nat} (h : Under M k j l) (h0 : 0 ≤ k) (hL : Chn M j L) (b : Bool) (hb : b = true ↔ ∃ a ∈ L, (a : Int) = k) :
    (b = true → Under M k (j + 1) (l ++ [j])) ∧ (b = false → Under M k (j + 1) l) := by
  have key : (∃ a ∈ L, (a : Int) = k) ↔ Anc M j k.toNat := by
    rw [← hL.mem]
    constructor
    · rintro ⟨a, ha, e⟩
      have : k.toNat = a := by omega
      rw [this]; exact ha
    · intro ha
      exact ⟨_, ha, by omega⟩
  refine ⟨fun e => h.yes hL.opn h0 (key.1 (hb.1 e)), fun e => h.no ?_⟩
  rintro ⟨_, _, hA⟩
  have := hb.2 (key.2 hA)
  rw [e] at this
  cases this

theorem contains_b (w : World) (B : Nat) (A : Option Addr) (c : Nat) (l : List Nat) (k : Int) (b : Bool) (hb : b = true ↔ ∃ a ∈ l, (a : Int) = k) (h : w.ownsRow B 3 1 (.slice A l.length c) l.length (nints l)) :
    Calls Try.prog 56 #[.slice A l.length c, .int .i64 k] w fun e w' => e = .returned (.bool b) ∧ w = w' := by
  classical
  refine (contains_ok w B A c l k h).mono ?_
  rintro e w' ⟨rfl, rfl⟩
  refine ⟨?_, rfl⟩
  cases b with
  | true => rw [decide_eq_true (hb.1 rfl)]
  | false => rw [decide_eq_false (fun x => by have := hb.2 x; cases this)]

theorem contains_nil (w : World) (k : Int) : Calls Try.prog 56 #[.slice none 0 0, .int .i64 k] w fun e w' => e = .returned (.bool false) ∧ w = w' :=
  contains_b w 0 none 0 [] k false (by simp) (World.ownsRow_nil _ _ _ _)

theorem keeps_cov {y : Nat} {own own' : Ow} {V V' : World} (h : Keeps own own' V V') : Keeps (cov y y own) (cov y y own') V V' := by
  refine ⟨h.os, h.tape, h.output, h.size, fun k h1 h2 => h.block k h1 (cov_none h2).2.2, fun k h1 => ?_, fun k h1 => ?_⟩
  · by_cases e : k = y
    · simp [cov, e]
    · rw [cov_of e e, cov_of e e]; exact h.same k h1
  · by_cases e : k = y
    · left; simp [cov, e]
    · rw [cov_of e e] at h1 ⊢; exact h.new k h1

theorem keeps_uncov {y : Nat} {own0 own : Ow} {W w V V' : World} (h : Keeps (cov y y own0) (cov y y own) w V) (hy : y = W.heap.size) (ho : own y = none) (hb : Below W.heap.size W w) (hs : V.heap.size ≤ V'.heap.size) (he : V'.os = V.os ∧ V'.tape = V.tape ∧ V'.output = V.output)
    (hk : ∀ k, k < W.heap.size → V'.heap[k]? = V.heap[k]?) : Keeps own0 own W V' := by
  subst hy
  have hws := hb.size
  have hvs := h.size
  refine ⟨he.1.trans (h.os.trans hb.os), he.2.1.trans (h.tape.trans hb.tape), he.2.2.trans (h.output.trans hb.output), by omega, fun k h1 h2 => ?_, fun k h1 => ?_, fun k h1 => ?_⟩
  · rw [hk k h1, h.block k (by omega) (by rw [cov_of (by omega) (by omega)]; exact h2)]
    exact hb.block k h1
  · have := h.same k (by omega)
    rwa [cov_of (by omega) (by omega), cov_of (by omega) (by omega)] at this
  · have hne : k ≠ W.heap.size := fun e => by subst e; exact h1 ho
    rcases h.new k (by rw [cov_of hne hne]; exact h1) with h2 | h2
    · rw [cov_of hne hne] at h2; exact .inl h2
    · exact .inr ⟨by omega, by omega⟩

set_option maxRecDepth 100000 in
set_option maxHeartbeats 4000000 in
theorem belowseq (n : Nat) (hn : 6 ≤ n) (b1 b2 t : Nat) (M : Tr) (ownT : Ow) (k : Int) (hgood : Good M) :
    SeqY Fence.wide n Try.prog 55 #[.pointer (some ⟨b1, 0, none⟩), .pointer (some ⟨b2, 0, none⟩)] (fun a : Nat => #[.int .i64 (a : Int)])
      (fun W => Tree W ownT t M ∧ b1 < W.heap.size ∧ b2 < W.heap.size ∧ W.cell? ⟨b1, 0, none⟩ = some (.pointer (some ⟨t, 0, none⟩)) ∧ W.cell? ⟨b2, 0, none⟩ = some (.int .i64 k))
      (fun x => ownT x ≠ none ∨ x = b1 ∨ x = b2) (fun xs => Under M k M.length xs) (fun _ => True) 64 := by
  intro l J Jx own0 W ⟨hT, hb1, hb2, c1, c2⟩ hR hf hFJ hFJx hY h0
  have hfind := fun w (h : Tree w ownT t M) => (by obtain ⟨g, cap, cs, h⟩ := h; exact ⟨cs, find_tree w ownT t g cap cs M k h ⟨hgood.pos, hgood.len⟩⟩ : ∃ cs, Calls Try.prog 37 #[.pointer (some ⟨t, 0, none⟩), .int .i64 k] w fun e w' => Found w ownT cs M k e ∧ w = w')
  have H := Lib.hid (And.intro hT (And.intro hR (And.intro hf (And.intro hFJ (And.intro hFJx (And.intro hY (And.intro h0 hfind)))))))
  have HG := Lib.hid hgood
  have hm := hgood.len
  clear hT hR hf hFJ hFJx hY h0 hfind hgood
  have n1 := World.new_ne W _ c1
  have n2 := World.new_ne W _ c2
  refine callsIn_of_wp_marks Try.func55 rfl trivial ?_ rfl
  simp only [Try.ntmps55, List.size_toArray, List.length_cons, List.length_nil, Nat.reduceAdd, Nat.reduceSub, Array.replicate_succ, Array.replicate_zero, List.push_toArray, List.append_toArray, List.nil_append, List.cons_append]
  refine wpIn_wide.2 ?_
  go_wp2_with (go_at_call 37; fail)
  have hbW : Below W.heap.size W (W.alloc (.cells #[.func (.yield l) #[] #[]] 96)) := (Below.refl _ _).alloc (Nat.le_refl _) _
  obtain ⟨cs, hfd⟩ := H.out.2.2.2.2.2.2.2 _ (H.out.1.below hbW)
  refine hfd.mono ?_
  rintro e w1 ⟨(⟨hnone, rfl⟩ | ⟨q, b, iv, hsome, h0, hi, _, _, _, _, rfl⟩), rfl⟩
  · have HN := Lib.hid hnone
    clear hnone hfd
    have hbd := Lib.hid hbW
    clear hbW
    go_wp2
    refine ⟨_, results_none rfl _ _ _, ?_⟩
    exact ⟨⟨_, rfl⟩, own0, .of_below own0 hbd.out, .inl ⟨[], under_none HG.out HN.out _, H.out.2.2.2.1 own0 [] W _ H.out.2.2.2.2.2.2.1 hbd.out.size fun k _ hk => hbd.out.block k hk⟩⟩
  · obtain ⟨g, cap, cs1, hTA⟩ := H.out.1.below hbW
    have hlen := hTA.len
    have hmost := hTA.most
    unfold maxLen at hmost
    have c3 : (W.alloc (.cells #[.func (.yield l) #[] #[]] 96)).cell? ⟨t, 0, none⟩ = some (.slice (some ⟨g, 0, none⟩) M.length cap) := by simp [World.cell?, hTA.top]
    have c1 := (hbW.cell (p := ⟨b1, _, none⟩) hb1).trans c1
    have c2 := (hbW.cell (p := ⟨b2, _, none⟩) hb2).trans c2
    have hyb : (W.alloc (.cells #[.func (.yield l) #[] #[]] 96)).heap[W.heap.size]? = some (.cells #[.func (.yield l) #[] #[]] 96 (0, 0)) := heap_alloc_new _ _
    have hsz : (W.alloc (.cells #[.func (.yield l) #[] #[]] 96)).heap.size = W.heap.size + 1 := by simp
    obtain ⟨i0, z0, hi0, hz0, hz1, hz2, hz3⟩ := info_open int_info
    generalize (W.alloc (.cells #[.func (.yield l) #[] #[]] 96)) = W1 at *
    have HW := Lib.hid (And.intro hbW (And.intro hyb hTA))
    have h0k := h0
    clear hfd hsome hi hbW hTA hyb h0 n1 n2
    go_wp2_with fail
    go_loopw [6, 24] (fun al i wr => ∃ (j : Nat) (L : List Nat) (A : Option Addr) (c : Nat), j ≤ M.length ∧ i = .int .i64 j ∧ al = .slice A L.length c ∧ Under M k j L ∧ wr.ownsRow W1.heap.size 3 1 al L.length (nints L) ∧ Below W1.heap.size W1 wr) (fun _ i _ => M.length - (intOf i).toNat)
    case atStart => exact ⟨0, [], none, 0, Nat.zero_le _, rfl, rfl, Under.nil M k, World.ownsRow_nil _ _ _ _, Below.refl _ _⟩
    case round =>
      obtain ⟨j, L, A, c, hj, rfl, rfl, hU, hrow, hb⟩ := hrel
      have c1 := (hb.cell (p := ⟨b1, _, none⟩) (show b1 < W1.heap.size by omega)).trans c1
      have c2 := (hb.cell (p := ⟨b2, _, none⟩) (show b2 < W1.heap.size by omega)).trans c2
      have hbs := hb.size
      have hUl := hU.len
      have HE := Lib.hid (And.intro hU (And.intro hrow hb))
      clear hU hrow hb
      by_cases hjl : j < M.length
      · have hch := chain_ok wr ownT t M (j : Int) (((H.out.1.below HW.out.1).below HE.out.2.2)) HG.out
        have HCh := Lib.hid hch
        clear hch
        go_wp2_with (go_at_call 27; fail)
        refine HCh.out.mono ?_
        rintro e w2 ⟨(⟨hnone, rfl⟩ | ⟨A2, c2', L2, _, hL2, rfl, hrow2⟩), hb2'⟩
        · have hb3 : Below W1.heap.size W1 w2 := HE.out.2.2.trans (hb2'.mono hbs)
          have c1 := (hb2'.cell (p := ⟨b1, _, none⟩) (show b1 < wr.heap.size by omega)).trans c1
          have c2 := (hb2'.cell (p := ⟨b2, _, none⟩) (show b2 < wr.heap.size by omega)).trans c2
          have hrow3 : w2.ownsRow W1.heap.size 3 1 (.slice A L.length c) L.length (nints L) := row_below HE.out.2.1 hb2'
          have HE2 := Lib.hid (And.intro hb3 (And.intro hrow3 hnone))
          clear hb3 hrow3 hnone hb2'
          go_wp2_with (go_at_call 56; refine (contains_nil _ _).mono ?_; rintro e w' ⟨rfl, rfl⟩)
          go_roundw
          case rel =>
            refine ⟨j + 1, L, A, c, by omega, by go_num, rfl, HE.out.1.no ?_, HE2.out.2.1, HE2.out.1⟩
            rintro ⟨⟨q', hq'⟩, _⟩
            have := HE2.out.2.2
            unfold find at this
            rw [if_neg (by omega), Int.toNat_natCast, hq'] at this
            cases this
          case measure => simp [intOf]; omega
        · have hb3 : Below W1.heap.size W1 w2 := HE.out.2.2.trans (hb2'.mono hbs)
          have c1 := (hb2'.cell (p := ⟨b1, _, none⟩) (show b1 < wr.heap.size by omega)).trans c1
          have c2 := (hb2'.cell (p := ⟨b2, _, none⟩) (show b2 < wr.heap.size by omega)).trans c2
          have hrow3 : w2.ownsRow W1.heap.size 3 1 (.slice A L.length c) L.length (nints L) := row_below HE.out.2.1 hb2'
          have hbs2 := hb2'.size
          rw [Int.toNat_natCast] at hL2
          obtain ⟨b, hbb⟩ : ∃ b : Bool, b = true ↔ ∃ a ∈ L2, (a : Int) = k := by
            by_cases h : ∃ a ∈ L2, (a : Int) = k
            · exact ⟨true, by simpa using h⟩
            · exact ⟨false, by simpa using h⟩
          have hcb := contains_b w2 wr.heap.size A2 c2' L2 k b hbb hrow2
          obtain ⟨hs1, hs2⟩ := under_step HE.out.1 h0k hL2 b hbb
          have HE2 := Lib.hid (And.intro hb3 (And.intro hrow3 (And.intro hs1 (And.intro hs2 hcb))))
          clear hb3 hb2' hL2 hrow2 hbb hcb hs1 hs2
          cases b with
          | false =>
            go_wp2_with (go_at_call 56; refine HE2.out.2.2.2.2.mono ?_; rintro e w' ⟨rfl, rfl⟩)
            go_roundw
            case rel => exact ⟨j + 1, L, A, c, by omega, by go_num, rfl, HE2.out.2.2.2.1 (by trivial), HE2.out.2.1, HE2.out.1⟩
            case measure => simp [intOf]; omega
          | true =>
            go_wp2_with (first
              | (go_at_call 56; refine HE2.out.2.2.2.2.mono ?_; rintro e w' ⟨rfl, rfl⟩)
              | (at_builtin; refine wpList_append_lies _ rfl (.tmp 36) (.tmp 38) _ rfl W1.heap.size 3 i0 z0 1 8 Try.underlying36 hi0 hz0 hz1 hz2 hz3 (by omega) (.slice A L.length c) L.length (nints L) rfl (hrow3.alloc _) ⟨w2.heap.size, 0, none⟩ 1 1 [.int .i64 (j : Int)] rfl rfl (World.news_of_block (heap_alloc_new _ _)) (by simp [Value.oneCell']) (by omega) (by unfold maxLen; omega) (by omega) (by simp; omega) (w2.heap.size + 1) (by simp) ?_
                 intro gg capg wg hown1 hgrow1 hat1 hlt1
                 have hbg : Below W1.heap.size W1 wg := (HE2.out.1.alloc (by omega) _).grown hgrow1 (by simp; omega) (fun k hk => (hrow3.lt k hk).1)
                 have HB := Lib.hid hbg
                 clear hbg))
            go_roundw
            case rel =>
              have : nints (L ++ [j]) = nints L ++ [.int .i64 (j : Int)] := by simp [nints]
              exact ⟨j + 1, L ++ [j], some ⟨gg, 0, none⟩, capg, by omega, by go_num, by simp, HE2.out.2.2.1 (by trivial), by rw [this]; simpa using hown1, HB.out⟩
            case measure => simp [intOf]; omega
      · obtain rfl : j = M.length := by omega
        go_wp2_with (go_at_call 57; refine (values_ok _ _ _ _).mono ?_; rintro e w' ⟨rfl, rfl⟩)
        refine (wpIn_wide (n := n)).1 ?_
        have hyb := HW.out.2.1
        have hrow := HE.out.2.1
        have hb := HE.out.2.2
        have hyr : wr.heap[W.heap.size]? = some (.cells #[.func (.yield l) #[] #[]] 96 (0, 0)) := (hb.block _ (by omega)).trans hyb
        have hbA : Below W.heap.size W (wr.alloc (.cells #[.slice A L.length c] 36)) := HW.out.1.trans ((hb.alloc hb.size _).mono (by omega))
        have hbB : Below wr.heap.size wr (wr.alloc (.cells #[.slice A L.length c] 36)) := (Below.refl _ _).alloc (Nat.le_refl _) _
        have hsA : (wr.alloc (.cells #[.slice A L.length c] 36)).heap.size = wr.heap.size + 1 := by simp
        have hvb : (wr.alloc (.cells #[.slice A L.length c] 36)).cell? ⟨wr.heap.size, 0, none⟩ = some (.slice A L.length c) := by rw [World.cell?_alloc_at _ _ _ _ rfl]; rfl
        have hyA := (hbB.block W.heap.size (by omega)).trans hyr
        have hno : ∀ x, W.heap.size ≤ x → own0 x = none := fun x hx => by
          cases e : own0 x with
          | none => rfl
          | some v => exact absurd (H.out.2.2.1 x (by rw [e]; simp)) (by omega)
        have HU := HE.out.1
        have HA := Lib.hid (And.intro hbA hyA)
        refine rangeY (Ix := fun cc own2 pre V => cc = .ret ∧ ∃ own, own2 = cov W.heap.size W.heap.size own ∧ own W.heap.size = none ∧ Jx own pre V) (I := fun own2 pre V => ∃ own, own2 = cov W.heap.size W.heap.size own ∧ own W.heap.size = none ∧ J own pre V ∧ Fresh own V ∧ V.heap[W.heap.size]? = some (.cells #[.func (.yield l) #[] #[]] 96 (0, 0)))
          rfl (by omega) (gf := 68) (lb := #[.pointer (some ⟨wr.heap.size, 0, none⟩)]) rfl trivial (enters_of Try.func68 (by kernel_rfl) rfl) (valseq Fence.wide (n - 1) trivial rfl (by omega) wr.heap.size A c L (by omega))
          (cov W.heap.size W.heap.size own0) ?hf0 ?hD ?hR (fun _ => rfl) ?hI ?hIx ?h0 ?a1 ?assign ?body ?done ?stop
        case hf0 =>
          intro x hx
          by_cases e : x = W.heap.size
          · omega
          · rw [cov_of e e] at hx
            have := H.out.2.2.1 x hx
            omega
        case hD =>
          intro V hV
          refine ⟨by have := hV.size; omega, (hV.cell (p := ⟨wr.heap.size, 0, none⟩) (by simp)).trans hvb, fun j a hja => ?_⟩
          obtain ⟨gg, hgA, _, hgl, hgc⟩ := nints_cell hrow rfl j a hja
          exact ⟨gg, hgA, ((hbB.trans (hV.mono hbB.size)).cell (p := ⟨gg, j, none⟩) hgl).trans hgc⟩
        case hR =>
          intro x hx
          rcases hx with rfl | hx
          · exact ⟨by rw [cov_of (by omega) (by omega)]; exact hno _ (by omega), by omega⟩
          · obtain ⟨h1, h2⟩ := hrow.lt x hx
            exact ⟨by rw [cov_of (by omega) (by omega)]; exact hno _ (by omega), by omega⟩
        case hI =>
          rintro own2 pre V V' ⟨own, rfl, ho, hJ, hfo, hyv⟩ hs hk
          exact ⟨own, rfl, ho, H.out.2.2.2.1 own pre V V' hJ hs (fun x h1 h2 => hk x (cov_ne h1) h2), fun x hx => Nat.lt_of_lt_of_le (hfo x hx) hs, (hk _ (by simp [cov]) (lt_of_heap hyv)).trans hyv⟩
        case hIx =>
          rintro cc own2 pre V V' ⟨hc, own, rfl, ho, hJ⟩ hs hk
          exact ⟨hc, own, rfl, ho, H.out.2.2.2.2.1 own pre V V' hJ hs (fun x h1 h2 => hk x (cov_ne h1) h2)⟩
        case h0 =>
          exact ⟨own0, rfl, hno _ (Nat.le_refl _), H.out.2.2.2.1 own0 [] W _ H.out.2.2.2.2.2.2.1 hbA.size (fun x _ hx => hbA.block x hx), fun x hx => by have := H.out.2.2.1 x hx; omega, hyA⟩
        case assign =>
          intro l2 x V K hK
          gi_wp2
          exact hK
        case body =>
          rintro l2 own2 pre x V ⟨own, rfl, ho, hJ, hfo, hyv⟩ _ hlen
          have hyc : V.cell? ⟨W.heap.size, 0, none⟩ = some (.func (.yield l) #[] #[]) := by simp [World.cell?, hyv]
          obtain ⟨fn, tmps, assign, body, hy, hRd⟩ := yieldAt_any (l2 := l2) (n - 1 - 1 - 1) (H.out.2.2.2.2.2.1 own pre x V hJ hfo (by omega))
          have hyl := lt_of_heap hyv
          have HJ := Lib.hid (And.intro hfo hyv)
          clear hJ hfo hyv
          have h1n : 1 ≤ n - 1 - 1 := by omega
          gi_wp2
          refine hRd.mono ?_
          rintro e V3 ⟨own3, hK3, (⟨rfl, hJ3⟩ | ⟨rfl, hJ3⟩)⟩
          · have H3 := Lib.hid (And.intro hJ3 hK3)
            clear hJ3 hK3
            gi_wp2
            exact ⟨_, keeps_cov H3.out.2, own3, rfl, (H3.out.2.same _ hyl).trans ho, H3.out.1, HJ.out.1.keeps H3.out.2, (H3.out.2.block _ hyl ho).trans HJ.out.2⟩
          · have H3 := Lib.hid (And.intro hJ3 hK3)
            clear hJ3 hK3
            gi_wp2
            exact ⟨_, keeps_cov H3.out.2, rfl, own3, rfl, (H3.out.2.same _ hyl).trans ho, H3.out.1⟩
        case done =>
          rintro own2 xs V rfl ⟨own, rfl, ho, hJ, hfo, hyv⟩ hK hd hdv
          have HV := Lib.hid (And.intro hJ (And.intro hK (And.intro hd hdv)))
          clear hJ hK hd hdv
          go_wp2
          refine ⟨by simp, .inl ⟨_, _, rfl, run_takeDeferred HV.out.2.2.2, ?_⟩⟩
          refine ⟨_, results_none rfl _ _ _, ⟨_, rfl⟩, own, keeps_uncov HV.out.2.1 rfl ho HA.out.1 (by simp) ⟨rfl, rfl, rfl⟩ (fun k hk => World.putObj_heap_other (by omega)), .inl ⟨xs, HU, ?_⟩⟩
          exact H.out.2.2.2.1 own xs V _ HV.out.1 (by simp) (fun k hk _ => World.putObj_heap_other fun e => by subst e; exact hk (cov_none HV.out.2.2.1).2.2)
        case stop =>
          rintro own2 cc pre V _ ⟨rfl, own, rfl, ho, hJ⟩ hK hd hdv
          have HV := Lib.hid (And.intro hJ (And.intro hK (And.intro hd hdv)))
          clear hJ hK hd hdv
          refine wpIn_wide.2 ?_
          go_wp2
          refine ⟨by simp, .inl ⟨_, _, rfl, run_takeDeferred HV.out.2.2.2, ?_⟩⟩
          refine ⟨_, results_none rfl _ _ _, ⟨_, rfl⟩, own, keeps_uncov HV.out.2.1 rfl ho HA.out.1 (by simp) ⟨rfl, rfl, rfl⟩ (fun k hk => World.putObj_heap_other (by omega)), .inr ⟨pre, trivial, ?_⟩⟩
          exact H.out.2.2.2.2.1 own pre V _ HV.out.1 (by simp) (fun k hk _ => World.putObj_heap_other fun e => by subst e; exact hk (cov_none HV.out.2.2.1).2.2)
end Ne
end Go.Proofs.Ytllmddhahpegmaa
