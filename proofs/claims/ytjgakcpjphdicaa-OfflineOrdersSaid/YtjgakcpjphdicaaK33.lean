/- The iterator of orders. The specification: Best. -/
import Derived.Test.YtjgakcpjphdicaaK32
import Derived.Laws.EntriesVeiled
import Derived.Test.YtjgakcpjphdicaaK11
import Derived.Test.YtjgakcpjphdicaaK14
namespace Go.Proofs.Ytjgakcpjphdicaa
open Go.RowKit Go.Shelf
namespace Of

theorem deep_ok (n l bb : Nat) (hn : 1 ≤ n) (lA : Option Addr) (lc : Nat) (L : List OB) (hL : OkL L) (yb b2 b3 ca cd co ga go : Nat) (J Jx : Ow → List BI → World → Prop) (hJ : Framed J) (hJx : Framed Jx) (hE : ∀ own pre W, J own pre W → W.cell? ⟨bb, 0, none⟩ = some (.int .i64 (stB pre).2)) (HY : YieldsB n l L J Jx) :
    ∀ (f : Nat) (own : Ow) (pre : List BI) (W : World) (A : List Int) (b : List Nat) (bx : Nat) (l1 l2 : List (List Nat)), DIn J own pre W l bb lA lc L yb b2 b3 ca cd co ga go A b bx → DPos L f b pre l1 l2 →
      Calls Try.prog 60 (deepA (topOf L b) yb b2 b3 ca cd co bx) W (DOut J Jx own W L co ga go A f b l1)
  | 0, own, pre, W, A, b, bx, l1, l2, D, Z => deep_leaf n l bb hn lA lc L hL yb b2 b3 ca cd co ga go J Jx HY own pre W A b bx l1 l2 D Z
  | f + 1, own, pre, W, A, b, bx, l1, l2, D, Z => deep_step l bb lA lc L hL yb b2 b3 ca cd co ga go J Jx hJ hJx hE f (deep_ok n l bb hn lA lc L hL yb b2 b3 ca cd co ga go J Jx hJ hJx hE HY f) own pre W A b bx l1 l2 D Z

theorem three_new (w : World) (a b c : Obj) : Below w.heap.size w (((w.alloc a).alloc b).alloc c) ∧ (((w.alloc a).alloc b).alloc c).heap[w.heap.size]? = some a ∧ (((w.alloc a).alloc b).alloc c).heap[w.heap.size + 1]? = some b ∧ (((w.alloc a).alloc b).alloc c).heap[w.heap.size + 1 + 1]? = some c ∧ (((w.alloc a).alloc b).alloc c).heap.size = w.heap.size + 1 + 1 + 1 := by
  refine ⟨((below_box w a).alloc (by simp) b).alloc (by simp; omega) c, ?_, ?_, ?_, by simp⟩
  · rw [heapAlloc, if_neg (by simp; omega), heapAlloc, if_neg (by simp), heapAlloc, if_pos rfl]
  · rw [heapAlloc, if_neg (by simp), heapAlloc, if_pos (by simp)]
  · rw [heapAlloc, if_pos (by simp)]
set_option maxRecDepth 100000 in
set_option maxHeartbeats 4000000 in
theorem ordseq (n : Nat) (hn : 2 ≤ n) (b2 b3 bb : Nat) (lA : Option Addr) (lc : Nat) (L : List OB) (hL : OkL L) :
    SeqB Fence.wide n Try.prog 59 #[.pointer (some ⟨b2, 0, none⟩), .pointer (some ⟨b3, 0, none⟩)] encB
      (fun W => W.cell? ⟨b2, 0, none⟩ = some (.slice lA L.length lc) ∧ W.cell? ⟨b3, 0, none⟩ = some (.pointer (some ⟨bb, 0, none⟩)) ∧ OBAt W lA lc L)
      (fun pre W => W.cell? ⟨bb, 0, none⟩ = some (.int .i64 (stB pre).2))
      (fun k => k = b2 ∨ k = b3 ∨ (0 < L.length ∧ lA.map (·.block) = some k)) (SB L) (SpB L) (AtB L) := by
  intro l J Jx own0 W ⟨c2, c3, hl⟩ hR hE hf hJ hJx HY h0
  have hD := fun yb ca cd co ga go => deep_ok (n - 1) l bb (by omega) lA lc L hL yb b2 b3 ca cd co ga go J Jx hJ hJx hE HY L.length
  have HD := Lib.hid hD
  have HX := Lib.hid (And.intro c2 (And.intro c3 (And.intro hl (And.intro hR (And.intro hf (And.intro hJ h0))))))
  have hlen := hL.1
  have hm1 := fun W => make_row W 24 2 L.length L.length Try.underlying24 i64_row (by omega) (Nat.le_refl _)
  have hm2 : ∀ W, (Instr.makeSlice 25 (.int .i64 0) (.int .i64 (L.length : Int))).run Try.prog W = .ok (.slice (some ⟨W.heap.size, 0, none⟩) 0 L.length) (W.alloc (.cells (Array.replicate L.length (.int .i64 0)) 3)) := fun W => make_row W 25 3 0 L.length Try.underlying25 int_row (by omega) (Nat.zero_le _)
  clear hD hl hR hE hf hJ hJx HY h0
  refine (callsIn_wide (n := n)).2 ?_
  have hlt2 : b2 < W.heap.size := World.block_lt_of_cell? W (a := ⟨b2, 0, none⟩) c2
  go_enter Try.func59, Try.ntmps59
  go_upto_region 2 with (fail)
  have h3 := three_new W (.cells #[.func (.yield l) #[] #[]] 82) (.cells (Array.replicate L.length (.int .i64 0)) 2) (.cells #[.slice (some ⟨W.heap.size + 1, 0, none⟩) L.length L.length] 24)
  generalize (((W.alloc (.cells #[.func (.yield l) #[] #[]] 82)).alloc (.cells (Array.replicate L.length (.int .i64 0)) 2)).alloc (.cells #[.slice (some ⟨W.heap.size + 1, 0, none⟩) L.length L.length] 24)) = W3 at *
  obtain ⟨b3', y3, a3, ca3, s3⟩ := h3
  have c23 := (b3'.cell (p := ⟨b2, 0, none⟩) hlt2).trans c2
  clear c2 c3
  go_upto_region 4 with (fail)
  have h6 := three_new W3 (.cells (Array.replicate L.length (.int .i64 0)) 3) (.cells #[.slice (some ⟨W.heap.size + 1 + 1 + 1, 0, none⟩) 0 L.length] 25) (.cells #[.nilFunc] 83)
  generalize (((W3.alloc (.cells (Array.replicate L.length (.int .i64 0)) 3)).alloc (.cells #[.slice (some ⟨W.heap.size + 1 + 1 + 1, 0, none⟩) 0 L.length] 25)).alloc (.cells #[.nilFunc] 83)) = W6 at *
  rw [s3] at h6
  obtain ⟨b6, g6, o6, d6, s6⟩ := h6
  obtain ⟨d6c, d6f⟩ := one_cell d6
  obtain ⟨yb, hyb⟩ : ∃ z, z = W.heap.size := ⟨_, rfl⟩
  rw [← hyb] at y3 a3 ca3 s3 b6 g6 o6 d6 s6 d6c d6f ⊢
  obtain ⟨ga, hga⟩ : ∃ z, z = yb + 1 := ⟨_, rfl⟩
  rw [← hga] at a3 ca3 s3 b6 g6 o6 d6 s6 d6c d6f ⊢
  obtain ⟨ca, hca⟩ : ∃ z, z = ga + 1 := ⟨_, rfl⟩
  rw [← hca] at ca3 s3 b6 g6 o6 d6 s6 d6c d6f ⊢
  obtain ⟨go, hgo⟩ : ∃ z, z = ca + 1 := ⟨_, rfl⟩
  rw [← hgo] at s3 b6 g6 o6 d6 s6 d6c d6f ⊢
  obtain ⟨co, hco⟩ : ∃ z, z = go + 1 := ⟨_, rfl⟩
  rw [← hco] at o6 d6 s6 d6c d6f ⊢
  obtain ⟨cd, hcd⟩ : ∃ z, z = co + 1 := ⟨_, rfl⟩
  rw [← hcd] at d6 s6 d6c d6f ⊢
  have d7 := setCell_at W6 cd 0 #[.nilFunc] 83 (.func (.func 60) #[] (deepC yb b2 b3 ca cd co)) d6
  have f7 : ∀ k, k ≠ cd → (W6.setCell ⟨cd, 0, none⟩ (.func (.func 60) #[] (deepC yb b2 b3 ca cd co))).heap[k]? = W6.heap[k]? := fun k h => setCell_far W6 ⟨cd, 0, none⟩ (.func (.func 60) #[] (deepC yb b2 b3 ca cd co)) k h
  have s7 : (W6.setCell ⟨cd, 0, none⟩ (.func (.func 60) #[] (deepC yb b2 b3 ca cd co))).heap.size = W6.heap.size := setCell_size _ _ _
  have t7 : (W6.setCell ⟨cd, 0, none⟩ (.func (.func 60) #[] (deepC yb b2 b3 ca cd co))).os = W6.os ∧ (W6.setCell ⟨cd, 0, none⟩ (.func (.func 60) #[] (deepC yb b2 b3 ca cd co))).tape = W6.tape ∧ (W6.setCell ⟨cd, 0, none⟩ (.func (.func 60) #[] (deepC yb b2 b3 ca cd co))).output = W6.output := ⟨rfl, rfl, rfl⟩
  have HZ := Lib.hid (And.intro hyb (And.intro hga (And.intro hca (And.intro hgo (And.intro hco hcd)))))
  have H3 := Lib.hid (And.intro b3' (And.intro y3 (And.intro a3 (And.intro ca3 s3))))
  have H6 := Lib.hid (And.intro b6 (And.intro g6 (And.intro o6 s6)))
  clear hyb hga hca hgo hco hcd b3' y3 a3 ca3 s3 b6 g6 o6 s6 c23
  go_upto_region 5 with (fail)
  generalize W6.setCell ⟨cd, 0, none⟩ (.func (.func 60) #[] (deepC yb b2 b3 ca cd co)) = W7 at *
  have z1 := HZ.out.1
  have z2 := HZ.out.2.1
  have z3 := HZ.out.2.2.1
  have z4 := HZ.out.2.2.2.1
  have z5 := HZ.out.2.2.2.2.1
  have z6 := HZ.out.2.2.2.2.2
  have s6 := H6.out.2.2.2
  have s7' : W7.heap.size = cd + 1 := by rw [s7, s6]
  have n36 : ∀ k, k < go → W7.heap[k]? = W3.heap[k]? := fun k hk => (f7 k (by omega)).trans (H6.out.1.block k hk)
  have n03 : ∀ k, k < yb → W7.heap[k]? = W.heap[k]? := fun k hk => (n36 k (by omega)).trans (H3.out.1.block k (by omega))
  have bW7 : Below W.heap.size W W7 := ⟨t7.1.trans (H6.out.1.os.trans H3.out.1.os), t7.2.1.trans (H6.out.1.tape.trans H3.out.1.tape), t7.2.2.trans (H6.out.1.output.trans H3.out.1.output), by omega, fun k hk => n03 k (by omega)⟩
  have g7 : W7.heap[go]? = some (.cells (Array.replicate L.length (.int .i64 0)) 3 (0, 0)) := (f7 go (by omega)).trans H6.out.2.1
  have o7 : W7.heap[co]? = some (.cells #[.slice (some ⟨go, 0, none⟩) 0 L.length] 25 (0, 0)) := (f7 co (by omega)).trans H6.out.2.2.1
  have y7 := (n36 yb (by omega)).trans H3.out.2.1
  have a7 := (n36 ga (by omega)).trans H3.out.2.2.1
  have ca7 := (n36 ca (by omega)).trans H3.out.2.2.2.1
  have c27 : W7.cell? ⟨b2, 0, none⟩ = some (.slice lA L.length lc) := (World.cell?_of_block (a := ⟨b2, 0, none⟩) (n03 b2 (by omega))).trans HX.out.1
  have hb3 : b3 < W.heap.size := World.block_lt_of_cell? W (a := ⟨b3, 0, none⟩) HX.out.2.1
  have c37 : W7.cell? ⟨b3, 0, none⟩ = some (.pointer (some ⟨bb, 0, none⟩)) := (World.cell?_of_block (a := ⟨b3, 0, none⟩) (n03 b3 (by omega))).trans HX.out.2.1
  have b8 : Below W7.heap.size W7 (W7.alloc (.cells #[.slice lA L.length lc, .slice (some ⟨ga, 0, none⟩) L.length L.length, .slice none 0 0] 87)) := below_box _ _
  have x8 : (W7.alloc (.cells #[.slice lA L.length lc, .slice (some ⟨ga, 0, none⟩) L.length L.length, .slice none 0 0] 87)).heap[cd + 1]? = some (.cells #[.slice lA L.length lc, .slice (some ⟨ga, 0, none⟩) L.length L.length, .slice none 0 0] 87 (0, 0)) := by rw [heapAlloc, if_pos s7'.symm]
  have cd7 := (one_cell d7).1
  have ca7c := (one_cell ca7).1
  clear s7
  have hfr : ∀ k, yb ≤ k → own0 k = none := fun k hk => by
    cases e : own0 k with
    | none => rfl
    | some v => have := HX.out.2.2.2.2.1 k (by rw [e]; simp); omega
  have hk7 : ∀ k, k < cd + 1 → (W7.alloc (.cells #[.slice lA L.length lc, .slice (some ⟨ga, 0, none⟩) L.length L.length, .slice none 0 0] 87)).heap[k]? = W7.heap[k]? := fun k hk => b8.block k (by omega)
  have b08 := bW7.trans (b8.mono (by omega))
  have hr2 := HX.out.2.2.2.1 b2 (.inl rfl)
  have hr3 := HX.out.2.2.2.1 b3 (.inr (.inl rfl))
  have hlb := HX.out.2.2.1.below b08 (Nat.le_refl _)
  have hn3 : ∀ k, k < yb ∨ k = yb ∨ k = ca ∨ k = cd → ¬ wr3 co ga go k := fun k hk => not_wr3 (by omega) (by omega) (by omega)
  have hrow8 := row_made W7 2 L.length
  have D8 : DIn J own0 [] (W7.alloc (.cells #[.slice lA L.length lc, .slice (some ⟨ga, 0, none⟩) L.length L.length, .slice none 0 0] 87)) l bb lA lc L yb b2 b3 ca cd co ga go (List.replicate L.length 0) [] (cd + 1) := by
    refine ⟨⟨(one_cell ((hk7 yb (by omega)).trans y7)).1, cell_keep2 b8 c27, cell_keep2 b8 c37, (one_cell ((hk7 ca (by omega)).trans ca7)).1, cell_keep2 b8 cd7, ⟨hfr _ (by omega), hr2, hr3, hfr _ (by omega), hfr _ (by omega), hfr _ (by omega), hfr _ (by omega), hfr _ (by omega)⟩, ⟨hn3 _ (by omega), hn3 _ (by omega), hn3 _ (by omega), hn3 _ (by omega), hn3 _ (by omega)⟩, ⟨by omega, by omega, by omega⟩, hlb, fun hp g hg => ?_⟩, ⟨(hk7 co (by omega)).trans o7, ?_⟩, HX.out.2.2.2.2.2.1 own0 [] W _ HX.out.2.2.2.2.2.2 b08.size (fun k _ hk => b08.block k hk), fun k hk => ?_, (fun k hk => by cases hk), by simp, ⟨none, 0, [], ⟨by rw [List.length_replicate]; exact x8, hlb, ?_, ⟨rfl, .inl ⟨rfl, rfl⟩⟩⟩, fun k => Iff.rfl, List.Pairwise.nil, rfl, fun g hg => by cases hg⟩, hfr _ (by omega)⟩
    · obtain ⟨g', o', hA, hg'⟩ := HX.out.2.2.1.head hp
      have e : g' = g := by rw [hA] at hg; injection hg
      exact ⟨HX.out.2.2.2.1 g (.inr (.inr ⟨hp, hg⟩)), hn3 g (by omega)⟩
    · exact ⟨rfl, .inr ⟨go, L.length, _, rfl, Nat.zero_le _, (hk7 go (by omega)).trans g7, Nat.zero_le _, by unfold maxLen; omega, by simp, rfl⟩⟩
    · have := HX.out.2.2.2.2.1 k hk
      have := b08.size
      omega
    · exact ⟨_, (hk7 ga (by omega)).trans a7, by simp [ci]⟩
  have Z8 : DPos L L.length [] [] [] [] := ⟨⟨List.nodup_nil, fun i hi => by cases hi⟩, by simp, by simp, rfl, by show (0 : Int) < 4611686018427387904; omega⟩
  have hcall := HD.out yb ca cd co ga go own0 [] _ (List.replicate L.length 0) [] (cd + 1) [] [] D8 Z8
  rw [show topOf L [] = 0 from rfl] at hcall
  have HC := Lib.hid hcall
  have HB := Lib.hid b08
  clear hcall D8 Z8 hrow8 hn3 hlb hr2 hr3 b08 hk7 hfr y7 a7 ca7 o7 g7 bW7 n03 n36 z1 z2 z3 z4 z5 z6 s6 d7 f7 t7 b8 x8
  go_wp2_with (go_at_call 60; refine HC.out.mono ?_; intro e w9 hd9; obtain ⟨v, own9, pre9, A9, rfl, y1, y2, y3, y4, y5, y6, y7⟩ := hd9.split; have H9 := Lib.hid (And.intro y1 (And.intro y6 y7)); clear hd9 y1 y2 y3 y4 y5 y6 y7)
  go_end0
  have hK := H9.out.1
  have hB := HB.out
  have hz : ∀ k, k < W.heap.size → ¬ wr3 co ga go k := fun k hk => not_wr3 (by have := HZ.out; omega) (by have := HZ.out; omega) (by have := HZ.out; omega)
  have hsz := hB.size
  refine ⟨⟨_, rfl⟩, own9, ⟨hK.os.trans hB.os, hK.tape.trans hB.tape, hK.output.trans hB.output, Nat.le_trans hsz hK.size, fun k hk hn => (hK.block k (by omega) hn (hz k hk)).trans (hB.block k hk), fun k hk => hK.same k (by omega), fun k h => (hK.new k h).imp_right fun h => ⟨by omega, h.2⟩⟩, ?_⟩
  cases v with
  | true =>
    obtain ⟨j, s⟩ := H9.out.2.1 rfl
    exact .inl ⟨pre9, s, j⟩
  | false =>
    obtain ⟨j, s⟩ := H9.out.2.2 rfl
    exact .inr ⟨pre9, s, j⟩
end Of
end Go.Proofs.Ytjgakcpjphdicaa
namespace Go.Proofs.Ytjgakcpjphdicaa
open Go.RowKit
namespace Of

theorem results_four {fn : Func} {t u v x : Tmp} (h : fn.results = #[.tmp t, .tmp u, .tmp v, .tmp x]) (tmps : Array Value) (P : Program) (w : World) :
    (results fn tmps).run P w = .ok (.tuple #[tmps.getD t undef, tmps.getD u undef, tmps.getD v undef, tmps.getD x undef]) w := by
  simp [results, h]
/-- What Best says. -/
def BestNo (w : World) (x : Int) (e : Ending) (w' : World) : Prop := e = .returned (.tuple #[.slice none 0 0, .slice none 0 0, .int .i64 0, .int .i64 x]) ∧ Below w.heap.size w w'
structure BestOut (w : World) (L : List OB) (e : Ending) (w' : World) : Prop where
  bad : checkV L ≠ 0 → BestNo w (checkV L) e w'
  long : checkV L = 0 → 8 < L.length → BestNo w 3 e w'
  yes : checkV L = 0 → L.length ≤ 8 → ∃ (ga : Nat) (A : Option Addr) (c : Nat), e = .returned (.tuple #[.slice (some ⟨ga, 0, none⟩) L.length L.length, .slice A L.length c, .int .i64 (topOf L (bestV L)), .int .i64 0]) ∧ RowI 2 w' ga (lays L (bestV L)).A ∧ IAt w' A c (zsP (bestV L)) ∧ Below w.heap.size w w'

set_option maxRecDepth 100000 in
set_option maxHeartbeats 4000000 in
theorem BestR_ok (w : World) (lA : Option Addr) (lc : Nat) (L : List OB) (hl : OBAt w lA lc L) :
    Calls Try.prog 13 #[.slice lA L.length lc] w (BestOut w L) := by
  have hck := checkR_ok lA lc L w hl
  have hcap := hl.2.1
  have hlc := hl.1
  unfold maxLen at hcap
  rcases checkV_cases L with hv | hv | hv
  · have hL := (checkV_ok L).1 hv
    have hlen := hL.1
    rw [hv] at hck
    have HC := Lib.hid hck
    have HV := Lib.hid hv
    clear hck hv
    by_cases h8 : 8 < L.length
    · have fin : ∀ (e : Ending) (w' : World), BestNo w 3 e w' → BestOut w L e w' := fun e w' h => ⟨fun h2 => absurd HV.out h2, fun _ _ => h, fun _ h3 => absurd h3 (by omega)⟩
      have HFIN := Lib.hid fin
      clear fin hL hl
      go_enter Try.func13, Try.ntmps13
      go_wp2_with (go_at_call 20; refine HC.out.mono ?_; rintro e w1 ⟨rfl, hb1⟩; have HB1 := Lib.hid hb1; clear hb1)
      ((try simp only [Exit.inBlock, Exit.then]); refine bodyPost_ret (results_four rfl _ _ _) rfl ?_)
      exact HFIN.out _ _ ⟨rfl, HB1.out⟩
    · obtain ⟨hs1, hs2, hs3, _⟩ := bestV_spec L
      have hO0 : Ord L.length [] := ⟨List.nodup_nil, fun i hi => by cases hi⟩
      have hse := fun W (hb : Below w.heap.size w W) => search_ok L hL L.length [] hO0 (by simp) W lA lc none 0 none 0 0 (none, 0) (hl.below hb (Nat.le_refl _)) ⟨Nat.zero_le _, by unfold maxLen; omega, fun q x hx => by simp [zsP] at hx⟩ (fun _ => rfl) ⟨rfl, rfl, rfl⟩
      have hly := fun W (hb : Below w.heap.size w W) A c (ho : IAt W A c (zsP (bestV L))) => layR_ok W lA lc L A c (bestV L) (hl.below hb (Nat.le_refl _)) ho hL hs2
      rw [hs3] at hly
      have HS := Lib.hid hse
      have HL := Lib.hid hly
      have H1 := Lib.hid (And.intro hs1 hs3)
      clear hse hly hs1 hs2 hs3 hl hO0 hL
      have fin : ∀ (e : Ending) (w' : World), (∃ (ga : Nat) (A : Option Addr) (c : Nat), e = .returned (.tuple #[.slice (some ⟨ga, 0, none⟩) L.length L.length, .slice A L.length c, .int .i64 (topOf L (bestV L)), .int .i64 0]) ∧ RowI 2 w' ga (lays L (bestV L)).A ∧ IAt w' A c (zsP (bestV L)) ∧ Below w.heap.size w w') → BestOut w L e w' := fun e w' h => ⟨fun h2 => absurd HV.out h2, fun _ h3 => absurd h3 h8, fun _ _ => h⟩
      have HFIN := Lib.hid fin
      clear fin
      go_enter Try.func13, Try.ntmps13
      go_wp2_with (first
        | (go_at_call 20; refine HC.out.mono ?_; rintro e w1 ⟨rfl, hb1⟩; have HB1 := Lib.hid hb1; clear hb1)
        | (go_at_call 36; refine (HS.out _ HB1.out).mono ?_; rintro e w2 ⟨A2, n2, c2, rfl, h2, hb2⟩; rw [H1.out.1] at h2 ⊢; obtain ⟨h2a, h2n, h2i⟩ := h2; rw [H1.out.2] at h2n; subst h2n; have H2 := Lib.hid (And.intro h2i (HB1.out.trans (hb2.mono HB1.out.size))); clear h2a h2i hb2)
        | (go_at_call 37; refine (HL.out _ H2.out.2 _ _ H2.out.1).mono ?_; rintro e w3 ⟨ga, rfl, h3, h3g, hb3⟩; have H3 := Lib.hid (And.intro h3 hb3); clear h3 h3g hb3))
      ((try simp only [Exit.inBlock, Exit.then]); refine bodyPost_ret (results_four rfl _ _ _) rfl ?_)
      exact HFIN.out _ _ ⟨ga, A2, c2, rfl, H3.out.1, H2.out.1.below H3.out.2 (Nat.le_refl _), H2.out.2.trans (H3.out.2.mono H2.out.2.size)⟩
  all_goals
    have fin : ∀ (e : Ending) (w' : World), BestNo w (checkV L) e w' → BestOut w L e w' := fun e w' h => ⟨fun _ => h, fun h2 => absurd (hv.symm.trans h2) (by decide), fun h2 => absurd (hv.symm.trans h2) (by decide)⟩
    rw [hv] at hck fin
    have HC := Lib.hid hck
    have HFIN := Lib.hid fin
    clear fin hck hv hl
    go_enter Try.func13, Try.ntmps13
    go_wp2_with (go_at_call 20; refine HC.out.mono ?_; rintro e w1 ⟨rfl, hb1⟩; have HB1 := Lib.hid hb1; clear hb1)
    ((try simp only [Exit.inBlock, Exit.then]); refine bodyPost_ret (results_four rfl _ _ _) rfl ?_)
    exact HFIN.out _ _ ⟨rfl, HB1.out⟩
end Of
end Go.Proofs.Ytjgakcpjphdicaa
