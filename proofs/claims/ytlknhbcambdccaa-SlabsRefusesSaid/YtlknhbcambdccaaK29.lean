/- New and Load for buddy allocators that are none. Load of a cache: one slab more, as it lies in memory. Load of a cache: the walk. Valid of the reference. -/
import Derived.Test.YtlknhbcambdccaaK26
import Derived.Test.YtlknhbcambdccaaK6
import Derived.Test.YtlknhbcambdccaaK27
import Derived.Test.YtlknhbcambdccaaK23
import Derived.Deep.RegionLaw
import Derived.RegionTactic
import Derived.Test.YtlknhbcambdccaaK28
import Derived.Deep.RegionWith
namespace Go.Proofs.Ytlknhbcambdccaa
open Go.RowKit
namespace Sl
open Bu

set_option maxRecDepth 100000 in
set_option maxHeartbeats 1000000 in
theorem newC_not (w : World) (p : Option Addr) (h : IsNot w p) (size order keep : Int) :
    Calls Try.prog 16 #[.pointer p, .int .i64 size, .int .i64 order, .int .i64 keep] w fun e w' => e = .returned (.tuple #[.pointer none, .int .i64 1]) ∧ w = w' := by
  have HB := Lib.hid (blocks_not w p h)
  clear h
  go_enter Try.func16, Try.ntmps16
  go_wp2_with (go_at_call 45; refine HB.out.mono ?_; rintro _ w' ⟨rfl, rfl⟩)
  go_ret2
  exact ⟨rfl, rfl⟩

set_option maxRecDepth 100000 in
set_option maxHeartbeats 1000000 in
theorem loadC_not (w : World) (p : Option Addr) (h : IsNot w p) (size order keep : Int) (A : Option Addr) (n c : Nat) :
    Calls Try.prog 30 #[.pointer p, stv size order keep A n c] w fun e w' => e = .returned (.tuple #[.pointer none, .int .i64 1]) ∧ Below w.heap.size w w' := by
  obtain ⟨W1, hW1⟩ : ∃ W1, W1 = w.alloc (.cells #[.int .i64 size, .int .i64 order, .int .i64 keep, .slice A n c] 69) := ⟨_, rfl⟩
  have hb1 : Below w.heap.size w W1 := by rw [hW1]; exact below_box w _
  have hR1 : W1.heap[w.heap.size]? = some (.cells #[.int .i64 size, .int .i64 order, .int .i64 keep, .slice A n c] 69 (0, 0)) := by rw [hW1, heapAlloc, if_pos rfl]
  obtain ⟨q0, q1, q2, q3⟩ := four_at hR1
  have HN := Lib.hid (newC_not W1 p (h.below hb1) size order keep)
  have HW := Lib.hid hW1
  have HX := Lib.hid hb1
  clear h hb1 hR1 hW1
  go_enter Try.func30, Try.ntmps30
  go_wp2_with (fail)
  rw [← HW.out]
  go_wp2_with (go_at_call 16; fail)
  refine HN.out.mono ?_
  rintro _ w' ⟨rfl, rfl⟩
  go_wp2
  go_ret2
  exact ⟨rfl, HX.out⟩
end Sl
end Go.Proofs.Ytlknhbcambdccaa
namespace Go.Proofs.Ytlknhbcambdccaa
open Go.RowKit Go.Shelf
namespace Sl
open Bu

/-- What the loop of Load keeps. -/
def LoadI (W1 : World) (c b N s o kp : Nat) (L : List Blk) (l : List (Int × List Bool)) (k : Nat) (W : World) : Prop :=
  ∃ own A cap R, CacheAt W own c b ⟨s, o, kp, loadS (l.take k)⟩ (emptyS (loadS (l.take k))) A cap R ∧ Fresh own W ∧ (∀ z, z < W1.heap.size → z ≠ b → own z = none) ∧ Below W1.heap.size W1 W ∧ OkX L o (capa s o) (l.take k)

/-- What Load leaves. -/
def LoadR (w : World) (b N s o kp : Nat) (L : List Blk) (l : List (Int × List Bool)) (e : Ending) (w' : World) : Prop :=
  Below w.heap.size w w' ∧ ((OkX L o (capa s o) l ∧ emptyS (loadS l) ≤ kp ∧ ∃ c own, e = .returned (.tuple #[.pointer (some ⟨c, 0, none⟩), .int .i64 0]) ∧ Held w' own c b ⟨s, o, kp, loadS l⟩ N L ∧ (∀ z, z < w.heap.size → z ≠ b → own z = none) ∧ w.heap.size ≤ c) ∨
    (¬ (OkX L o (capa s o) l ∧ emptyS (loadS l) ≤ kp) ∧ e = .returned (.tuple #[.pointer none, .int .i64 6])))

theorem load_put {W1 wr W' : World} {own : Own?} {c b N s o kp k e' : Nat} {L : List Blk} {l : List (Int × List Bool)} {e : Nat} {A : Option Addr} {cap : Nat} {R : List Nat} {pg : Int} {us : List Bool} {u p g ucap cap' m : Nat}
    (hC : CacheAt wr own c b ⟨s, o, kp, loadS (l.take k)⟩ e A cap R) (hfr : Fresh own wr) (hout : ∀ z, z < W1.heap.size → z ≠ b → own z = none) (hb : Below W1.heap.size W1 wr) (hok : OkX L o (capa s o) (l.take k))
    (hx : l[k]? = some (pg, us)) (hg : GoodX L o (capa s o) (lastOf l k) (pg, us)) (hu : wr.heap.size ≤ u) (hp : wr.heap.size ≤ p) (hup : u ≠ p) (hgu : g ≠ u) (hgp : g ≠ p) (hgA : A.map (·.block) = some g ∨ wr.heap.size ≤ g)
    (hc' : W'.heap[c]? = some (.cells #[.pointer (some ⟨b, 0, none⟩), .int .i64 (s : Int), .int .i64 (o : Int), .int .i64 (kp : Int), .slice (some ⟨g, 0, none⟩) (R.length + 1) cap', .int .i64 (e' : Int)] 78 (0, 0)))
    (he' : e' = emptyS (loadS (l.take (k + 1))))
    (hr' : W'.ownsRow 0 97 1 (.slice (some ⟨g, 0, none⟩) (R.length + 1) cap') (R.length + 1) (ptrs R ++ [.pointer (some ⟨p, 0, none⟩)]))
    (hp' : W'.heap[p]? = some (.cells #[.int .i64 pg, .slice (some ⟨u, 0, none⟩) us.length ucap, .int .i64 (m : Int)] 101 (0, 0)))
    (hu' : W'.ownsRow 0 4 1 (.slice (some ⟨u, 0, none⟩) us.length ucap) us.length (bcells us)) (hm' : m = us.count true)
    (hk : ∀ z, z < wr.heap.size → z ≠ c → A.map (·.block) ≠ some z → W'.heap[z]? = wr.heap[z]?)
    (hmeta : W'.os = wr.os ∧ W'.tape = wr.tape ∧ W'.output = wr.output ∧ wr.heap.size ≤ W'.heap.size) : LoadI W1 c b N s o kp L l (k + 1) W' := by
  have hpg0 : 0 ≤ pg := hg.1
  have hpe : ((pg.toNat : Nat) : Int) = pg := Int.toNat_of_nonneg hpg0
  have hbelow := okX_below hok hx hg
  have hcl := lt_of_heap hC.cell
  have hAl : ∀ z, A.map (·.block) = some z → own z = some 2 ∧ z < wr.heap.size := fun z hz => ⟨hC.ownG z hz, hfr z (by rw [hC.ownG z hz]; simp)⟩
  have hnone : ∀ z, wr.heap.size ≤ z → own z = none := fun z hz => by
    cases ho : own z with
    | none => rfl
    | some v => have := hfr z (by rw [ho]; simp); omega
  have hlen : R.length = (loadS (l.take k)).length := hC.len
  have hpos : posS (loadS (l.take k)) pg.toNat = R.length := by rw [posS_all hbelow, hlen]
  have hins : insS (loadS (l.take k)) ⟨pg.toNat, us⟩ = loadS (l.take (k + 1)) := by rw [insS_all (x := ⟨pg.toNat, us⟩) hbelow, load_snoc hx]; rfl
  have hg0 : own g = some 2 ∨ own g = none := by
    rcases hgA with h | h
    · exact .inl (hAl g h).1
    · exact .inr (hnone g h)
  have hrow : ptrs R ++ [.pointer (some ⟨p, 0, none⟩)] = ptrs (R.take R.length ++ p :: R.drop R.length) := by
    rw [List.take_of_length_le (Nat.le_refl _), List.drop_eq_nil_of_le (Nat.le_refl _)]; unfold ptrs; rw [List.map_append]; rfl
  have key := cache_ins (W := wr) (W' := W') (e' := e') (p := pg.toNat) (u := u) (px := p) (g := g) (ucap := ucap) (m' := m) (us := us) (cap' := cap') hC (fun y hy => by have := hbelow y hy; have h2 : y.pg < pg.toNat := this; omega) (hnone u hu) (hnone p hp) hg0 hup hgu hgp hc'
    (by show W'.ownsRow 0 _ 1 _ _ (ptrs (R.take (posS (loadS (l.take k)) pg.toNat) ++ p :: R.drop (posS (loadS (l.take k)) pg.toNat))); rw [hpos, ← hrow]; exact hr') (by rw [hpe]; exact hp') hu' hm' (fun z hz hzc hzA hzl => hk z hzl hzc hzA)
  have key2 : CacheAt W' (ownI own p u g) c b ⟨s, o, kp, loadS (l.take (k + 1))⟩ (emptyS (loadS (l.take (k + 1)))) (some ⟨g, 0, none⟩) cap' (R.take (posS (loadS (l.take k)) pg.toNat) ++ p :: R.drop (posS (loadS (l.take k)) pg.toNat)) := by
    rw [← he', ← hins]; exact key
  have hsz := hmeta.2.2.2
  have hb1 := hb.size
  refine ⟨_, _, _, _, key2, fun z hz => ?_, fun z hz hzb => ?_, ⟨hmeta.1.trans hb.os, hmeta.2.1.trans hb.tape, hmeta.2.2.1.trans hb.output, Nat.le_trans hb.size hsz, fun z hz => ?_⟩, okX_snoc hok hx hg⟩
  · unfold ownI at hz
    split at hz
    · next e => rw [e]; exact (hu'.lt u rfl).2
    · split at hz
      · next e => rw [e]; exact lt_of_heap hp'
      · split at hz
        · next e => rw [e]; exact (hr'.lt g rfl).2
        · have := hfr z hz; omega
  · have h0 := hout z hz hzb
    unfold ownI
    rw [if_neg (by omega), if_neg (by omega), if_neg (fun e => ?_), h0]
    rcases hgA with h | h
    · have := (hAl g h).1; rw [← e, h0] at this; cases this
    · omega
  · have hzb : z = b ∨ own z = none := by
      by_cases e : z = b
      · exact .inl e
      · exact .inr (hout z hz e)
    rw [hk z (by omega) (fun e => ?_) (fun e => ?_)]
    · exact hb.block z hz
    · rcases hzb with h | h
      · have := hC.ownC; rw [← e, h, hC.ownB] at this; cases this
      · have := hC.ownC; rw [← e, h] at this; cases this
    · have h2 := (hAl z e).1
      rcases hzb with h | h
      · rw [h, hC.ownB] at h2; cases h2
      · rw [h] at h2; cases h2

theorem load_tail {W1 Wr Wd wr wc w1 : World} {own : Own?} {c b N s o kp k e' B : Nat} {L : List Blk} {l : List (Int × List Bool)} {e : Nat} {A : Option Addr} {cap : Nat} {R : List Nat} {pg : Int} {us : List Bool} {u p g rl q ucap cap' m : Nat}
    (hC : CacheAt Wr own c b ⟨s, o, kp, loadS (l.take k)⟩ e A cap R) (hfr : Fresh own Wr) (hout : ∀ z, z < W1.heap.size → z ≠ b → own z = none) (hb : Below W1.heap.size W1 Wr) (hok : OkX L o (capa s o) (l.take k))
    (hx : l[k]? = some (pg, us)) (hg : GoodX L o (capa s o) (lastOf l k) (pg, us)) (hWp : Wr.heap.size ≤ p) (hB : Wr.heap.size ≤ B) (hbd : Below Wr.heap.size Wr Wd)
    (hru : Wd.ownsRow B 4 1 (.slice (some ⟨u, 0, none⟩) q ucap) q (bcells us)) (hup : u < p) (hq : q = us.length) (hon : OnlyB (some p) Wd wr)
    (hpt : wr.heap[p]? = some (.cells #[.int .i64 pg, .slice (some ⟨u, 0, none⟩) q ucap, .int .i64 (m : Int)] 101 (0, 0))) (hm : m = us.count true) (hoz : OnlyB (some c) wr wc) (hrl : rl = R.length)
    (hcz : wc.heap[c]? = some (.cells #[.pointer (some ⟨b, 0, none⟩), .int .i64 (s : Int), .int .i64 (o : Int), .int .i64 (kp : Int), .slice A rl cap, .int .i64 (e' : Int)] 78 (0, 0)))
    (he' : e' = emptyS (loadS (l.take (k + 1))))
    (hown : w1.ownsRow 0 97 1 (.slice (some ⟨g, 0, none⟩) (rl + 1) cap') (rl + 1) (ptrs R ++ [.pointer (some ⟨p, 0, none⟩)]))
    (hgr : (wc.alloc (.cells #[.pointer (some ⟨p, 0, none⟩)] 97)).grownBy w1 (Value.slice A rl cap).ownBlock) (hat : (Value.slice A rl cap).ownBlock = some g ∨ g = wc.heap.size + 1) :
    LoadI W1 c b N s o kp L l (k + 1) (w1.setCell ⟨c, 4, none⟩ (.slice (some ⟨g, 0, none⟩) (rl + 1) cap')) := by
  have hcl := lt_of_heap hC.cell
  have hA : ∀ z, A.map (·.block) = some z → z < Wr.heap.size ∧ z ≠ c := fun z hz => ⟨hfr z (by rw [hC.ownG z hz]; simp), fun e => by have h1 := hC.ownG z hz; rw [e, hC.ownC] at h1; cases h1⟩
  have hbs := hbd.size
  have hos := hon.size
  have hzs := hoz.size
  have hgs := hgr.size
  have hals : (wc.alloc (.cells #[.pointer (some ⟨p, 0, none⟩)] 97)).heap.size = wc.heap.size + 1 := by simp
  have hat : A.map (·.block) = some g ∨ g = wc.heap.size + 1 := by rw [own_blk] at hat; exact hat
  rw [own_blk] at hgr
  have hu1 := hru.lt u rfl
  have hpl := lt_of_heap hpt
  have hpA : A.map (·.block) ≠ some p := fun e => by have := (hA p e).1; omega
  have huA : A.map (·.block) ≠ some u := fun e => by have := (hA u e).1; omega
  have hcA : A.map (·.block) ≠ some c := fun e => (hA c e).2 rfl
  have hgc : g ≠ c := fun e => by
    rcases hat with h | h
    · exact hcA (by rw [h, e])
    · omega
  have hsx : (w1.setCell ⟨c, 4, none⟩ (.slice (some ⟨g, 0, none⟩) (rl + 1) cap')).heap.size = w1.heap.size := setCell_size _ _ _
  have hw1 : ∀ z, z < wc.heap.size → A.map (·.block) ≠ some z → w1.heap[z]? = wc.heap[z]? := fun z hz hzA => (hgr.block z (by omega) (fun e => hzA e.symm)).trans (alloc_old _ _ _ hz)
  have hfin : ∀ z, z < wc.heap.size → z ≠ c → A.map (·.block) ≠ some z → (w1.setCell ⟨c, 4, none⟩ (.slice (some ⟨g, 0, none⟩) (rl + 1) cap')).heap[z]? = wc.heap[z]? := fun z hz hzc hzA => (setCell_far _ _ _ _ hzc).trans (hw1 z hz hzA)
  have hoz' : ∀ z, z ≠ c → wc.heap[z]? = wr.heap[z]? := fun z hz => hoz.block z (fun e => hz (Option.some.inj e).symm)
  have hon' : ∀ z, z ≠ p → wr.heap[z]? = Wd.heap[z]? := fun z hz => hon.block z (fun e => hz (Option.some.inj e).symm)
  refine load_put (u := u) (p := p) (g := g) (ucap := ucap) (cap' := cap') (m := m) (e' := e') hC hfr hout hb hok hx hg (by omega) hWp (by omega) (fun e => ?_) (fun e => ?_) ?_ ?_ he' ?_ ?_ ?_ hm (fun z hz hzc hzA => ?_) ?_
  · rcases hat with h | h
    · exact huA (by rw [h, e])
    · omega
  · rcases hat with h | h
    · exact hpA (by rw [h, e])
    · omega
  · rcases hat with h | h
    · exact .inl h
    · exact .inr (by omega)
  · rw [← hrl]; exact setCell_at _ _ _ _ _ _ ((hw1 c (by omega) hcA).trans hcz)
  · rw [← hrl]
    refine row_same hown fun z hz => setCell_far _ _ _ _ ?_
    injection hz with hz
    have hz : g = z := hz
    rw [← hz]; exact hgc
  · rw [hfin p (by omega) (by omega) hpA, hoz' p (by omega), ← hq]; exact hpt
  · rw [← hq]
    refine row_same (row_low hru (Nat.zero_le _)) fun z hz => ?_
    injection hz with hz
    have hz : u = z := hz
    rw [← hz, hfin u (by omega) (by omega) huA, hoz' u (by omega), hon' u (by omega)]
  · rw [hfin z (by omega) hzc hzA, hoz' z hzc, hon' z (by omega), hbd.block z hz]
  · exact ⟨hgr.os.trans (hoz.os.trans (hon.os.trans hbd.os)), hgr.tape.trans (hoz.tape.trans (hon.tape.trans hbd.tape)), hgr.output.trans (hoz.output.trans (hon.output.trans hbd.output)), by omega⟩
end Sl
end Go.Proofs.Ytlknhbcambdccaa
namespace Go.Proofs.Ytlknhbcambdccaa
open Go.RowKit Go.Shelf
namespace Sl
open Bu

theorem okX_not {L : List Blk} {o cap k : Nat} {l : List (Int × List Bool)} {x : Int × List Bool} (hx : l[k]? = some x) (h : ¬ GoodX L o cap (lastOf l k) x) : ¬ OkX L o cap l := fun hk => h (hk k x hx)
theorem run_blk_neq (w : World) (a b c d : Int) : (binOp .neq 126 (.agg #[.int .i64 a, .int .i64 b]) (.agg #[.int .i64 c, .int .i64 d])).run Try.prog w = .ok (.bool (!(a == c && b == d))) w := by
  have h := run_blk_eq w a b c d
  rw [show (10000 : Nat) = Op.maxDepth from rfl] at h
  simp only [binOp]
  simp [Op.equal, h]

theorem slab_made {wc w6 : World} {A6 : Option Addr} {c6 q : Nat} {us : List Bool} {pg : Int} (hq : q = us.length) (hq1 : 1 ≤ q) (hr : w6.ownsRow wc.heap.size 4 1 (.slice A6 q c6) q (bcells us)) (hb : Below wc.heap.size wc w6) :
    ∃ p u uc, (Value.pointer (some ⟨w6.heap.size, 0, none⟩) : Value) = .pointer (some ⟨p, 0, none⟩) ∧ (w6.alloc (.cells #[.int .i64 pg, .slice A6 q c6, .int .i64 0] 101)).heap[p]? = some (.cells #[.int .i64 pg, .slice (some ⟨u, 0, none⟩) q uc, .int .i64 0] 101 (0, 0)) ∧ (w6.alloc (.cells #[.int .i64 pg, .slice A6 q c6, .int .i64 0] 101)).ownsRow wc.heap.size 4 1 (.slice (some ⟨u, 0, none⟩) q uc) q (bcells us) ∧ Below wc.heap.size wc (w6.alloc (.cells #[.int .i64 pg, .slice A6 q c6, .int .i64 0] 101)) ∧ wc.heap.size ≤ p ∧ u < p ∧ (w6.alloc (.cells #[.int .i64 pg, .slice A6 q c6, .int .i64 0] 101)).heap.size = p + 1 := by
  obtain ⟨u, rfl⟩ := row_some hr hq1
  have hu := (row_capsA hr).2.2.1
  exact ⟨w6.heap.size, u, c6, rfl, by rw [heapAlloc, if_pos rfl], hr.alloc _, hb.alloc hb.size _, hb.size, hu, by simp⟩

set_option maxRecDepth 100000 in
set_option maxHeartbeats 8000000 in
theorem load_walk (w : World) (b N s o kp : Nat) (L : List Blk) (A : Option Addr) (cl : Nat) (l : List (Int × List Bool)) (hB : BuL w b N L) (hsz : sizesB (s : Int) (o : Int) (kp : Int) = true) (h : SbAt 0 w A cl l) (hl64 : ∀ x ∈ l, -9223372036854775808 ≤ x.1 ∧ x.1 < 9223372036854775808) :
    Calls Try.prog 30 #[.pointer (some ⟨b, 0, none⟩), stv (s : Int) (o : Int) (kp : Int) A l.length cl] w fun e w' => LoadR w b N s o kp L l e w' := by
  obtain ⟨n, hn⟩ : ∃ n, n = l.length := ⟨_, rfl⟩
  obtain ⟨W1, hW1⟩ : ∃ W1, W1 = w.alloc (.cells #[.int .i64 (s : Int), .int .i64 (o : Int), .int .i64 (kp : Int), .slice A n cl] 69) := ⟨_, rfl⟩
  have hb1 : Below w.heap.size w W1 := by rw [hW1]; exact below_box w _
  have hs1 : W1.heap.size = w.heap.size + 1 := by rw [hW1]; simp
  have hR1 : W1.heap[w.heap.size]? = some (.cells #[.int .i64 (s : Int), .int .i64 (o : Int), .int .i64 (kp : Int), .slice A n cl] 69 (0, 0)) := by rw [hW1, heapAlloc, if_pos rfl]
  obtain ⟨q0, q1, q2, q3⟩ := four_at hR1
  have hB1 : BuL W1 b N L := hB.keep (hb1.block b hB.lt)
  have hln := h.1
  have hlm := h.2.1
  unfold maxLen at hlm
  have HN := Lib.hid (newC_ok W1 b N L (s : Int) (o : Int) (kp : Int) hB1)
  have HW := Lib.hid hW1
  have HX := Lib.hid (And.intro hB1 (And.intro hsz (And.intro (h.below hb1) (And.intro hl64 (And.intro hn (And.intro hb1 (And.intro hs1 hR1)))))))
  rw [← hn] at hln ⊢
  clear hB hB1 hsz h hl64 hn hb1 hs1 hR1 hW1
  go_enter Try.func30, Try.ntmps30
  go_wp2_with (fail)
  rw [← HW.out]
  go_wp2_with (go_at_call 16; fail)
  refine HN.out.mono ?_
  intro e2 W2 hnew
  unfold NewC at hnew
  rw [if_pos HX.out.2.1] at hnew
  obtain ⟨c, s', o', k', own, hs', ho', hk', rfl, hH, hown, hcb, hb2⟩ := hnew
  obtain rfl : s = s' := by omega
  obtain rfl : o = o' := by omega
  obtain rfl : kp = k' := by omega
  have hI0 : LoadI W1 c b N s o kp L l 0 W2 := by
    obtain ⟨A0, cap0, R0, hC⟩ := hH.at_
    exact ⟨own, A0, cap0, R0, hC, hH.fresh, hown, hb2, fun i x hx => by simp at hx⟩
  replace q3 := (hb2.cell (p := ⟨w.heap.size, 3, none⟩) (by show w.heap.size < W1.heap.size; have := HX.out.2.2.2.2.2.2.1; omega)).trans q3
  have HI := Lib.hid hI0
  have hsz8 := hH.ok.sz.1
  have hod := hH.ok.od
  have hcpp : 1 ≤ capa s o ∧ capa s o ≤ 128 := ⟨(capa_pos hH.ok).1, (capa_pos hH.ok).2.1⟩
  clear hI0 hH hown hb2 hs' ho' hk' HN q0 q1 q2
  go_wp2_with (fail)
  go_loopw [8, 33] (fun v i wr => ∃ k : Nat, k ≤ n ∧ i = .int .i64 (k : Int) ∧ v = .int .i64 (lastOf l k) ∧ LoadI W1 c b N s o kp L l k wr) (fun _ i _ => n - (intOf i).toNat)
  case atStart => exact ⟨0, Nat.zero_le _, rfl, rfl, HI.out⟩
  case round =>
    clear HI
    obtain ⟨k, hk, rfl, rfl, own, A2, cap, R, hC, hfr, hout, hb, hok⟩ := hrel
    have e0 : (0 : Int) ≤ (k : Int) := by omega
    by_cases hlt : k < n
    · have e1 : (k : Int) < (n : Int) := by omega
      have hkk : IntKind.i64.wrap ((k : Int) + 1) = ((k + 1 : Nat) : Int) := by rw [IntWalk.i64_in _ (by omega)]; rfl
      obtain ⟨⟨pg, us⟩, hx⟩ : ∃ x, l[k]? = some x := ⟨_, List.getElem?_eq_getElem (by have := HX.out.2.2.2.2.1; omega)⟩
      obtain ⟨g1, o1, U1, cu1, rfl, _, hg1, d0, d1, hU1⟩ := HX.out.2.2.1.2.2 k _ hx
      dsimp only at d0 d1 hU1
      replace d0 := (hb.cell (p := ⟨g1, o1 + k * 2, none⟩) hg1).trans d0
      replace d1 := (hb.cell (p := ⟨g1, o1 + k * 2 + 1, none⟩) hg1).trans d1
      have hstc := (hb.block w.heap.size (by have := HX.out.2.2.2.2.2.2.1; omega)).trans HX.out.2.2.2.2.2.2.2
      obtain ⟨_, q1, _, q3w⟩ := four_at hstc
      have hBw : BuL wr b N L := HX.out.1.keep (hb.block b HX.out.1.lt)
      obtain ⟨c0, c1, c2, _⟩ := six_cells hC.cell
      have hcl := lt_of_heap hC.cell
      obtain ⟨q, hq⟩ : ∃ q, q = us.length := ⟨_, rfl⟩
      have hm1 := hU1.1
      have hx1 := hU1.2.1
      unfold maxLen at hx1
      rw [← hq] at d1 hm1
      -- the value is boxed; then the owner is asked
      obtain ⟨W3, hW3⟩ : ∃ W3, W3 = wr.alloc (.cells #[.int .i64 pg, .slice U1 q cu1] 90) := ⟨_, rfl⟩
      have hb3 : Below wr.heap.size wr W3 := by rw [hW3]; exact below_box wr _
      have hx3 : W3.heap[wr.heap.size]? = some (.cells #[.int .i64 pg, .slice U1 q cu1] 90 (0, 0)) := by rw [hW3, heapAlloc, if_pos rfl]
      have HO := Lib.hid (owner_any W3 b N L pg o (hBw.keep (hb3.block b hBw.lt)))
      obtain ⟨X, hX⟩ : ∃ X, X = wr.heap.size := ⟨_, rfl⟩
      have HW3 := Lib.hid (And.intro hW3 hX)
      rw [← hX] at hx3
      obtain ⟨x0, x1, _, _⟩ := two_cells hx3
      have HJ := Lib.hid (And.intro hC (And.intro hfr (And.intro hout (And.intro hb (And.intro hok (And.intro hx (And.intro hU1 (And.intro hq (And.intro hBw (And.intro hb3 (And.intro hx3 hstc)))))))))))
      clear hC hfr hout hb hok hx hU1 hq hBw hb3 hW3 hX hx3 hstc
      go_wp2_with (fail)
      rw [← HW3.out.1, ← HW3.out.2]
      go_wp2_with (go_at_call 61; fail)
      refine HO.out.mono ?_
      rintro _ W4 ⟨⟨pp, oo, er, rfl, hiff⟩, hb4⟩
      go_wp2_with (fail)
      obtain ⟨Y, hY⟩ : ∃ Y, Y = W4.heap.size := ⟨_, rfl⟩
      obtain ⟨W5, hW5⟩ : ∃ W5, W5 = W4.alloc (.cells #[.int .i64 pp, .int .i64 oo] 126) := ⟨_, rfl⟩
      have hb5 : Below W4.heap.size W4 W5 := by rw [hW5]; exact below_box W4 _
      have hy5 : W5.heap[Y]? = some (.cells #[.int .i64 pp, .int .i64 oo] 126 (0, 0)) := by rw [hW5, hY, heapAlloc, if_pos rfl]
      rw [← hW5, ← hY]
      have hbr5 : Below wr.heap.size wr W5 := (HJ.out.2.2.2.2.2.2.2.2.2.1.trans (hb4.mono HJ.out.2.2.2.2.2.2.2.2.2.1.size)).trans (hb5.mono (Nat.le_trans HJ.out.2.2.2.2.2.2.2.2.2.1.size hb4.size))
      have hx5 := (hb5.block X (by have := lt_of_heap HJ.out.2.2.2.2.2.2.2.2.2.2.1; have := hb4.size; omega)).trans ((hb4.block X (lt_of_heap HJ.out.2.2.2.2.2.2.2.2.2.2.1)).trans HJ.out.2.2.2.2.2.2.2.2.2.2.1)
      have hc5 := (hbr5.block c hcl).trans HJ.out.1.cell
      have hs5 := (hbr5.block w.heap.size (lt_of_heap HJ.out.2.2.2.2.2.2.2.2.2.2.2)).trans HJ.out.2.2.2.2.2.2.2.2.2.2.2
      obtain ⟨x50, x51, _, _⟩ := two_cells hx5
      obtain ⟨y50, y51, _, _⟩ := two_cells hy5
      obtain ⟨_, r1, _, _⟩ := four_at hs5
      obtain ⟨_, k1, k2, _⟩ := six_cells hc5
      have hcap := fun n => capacity_ok (W5.drewN n) c s o k1 k2 hsz8 hod
      have hne := fun W => run_blk_neq W pp oo pg (o : Int)
      obtain ⟨lst, hlst⟩ : ∃ lst, lst = lastOf l k := ⟨_, rfl⟩
      obtain ⟨cp, hcp⟩ : ∃ cp, cp = capa s o := ⟨_, rfl⟩
      rw [← hcp] at hcap
      rw [← hlst]
      have HCap := Lib.hid hcap
      have H5 := Lib.hid (And.intro hiff (And.intro hb5 (And.intro hbr5 (And.intro hx5 (And.intro hy5 (And.intro hc5 (And.intro hs5 (And.intro hlst (And.intro hcp hb4)))))))))
      clear hcap hiff hb4 hb5 hbr5 hx5 hy5 hc5 hs5 hlst hcp hW5 hY x0 x1 q1 c1 c2 c0 d0 d1 q3w hcl
      go_cut [68] from 34 to 116 (fun v wx => (∃ d, wx = W5.drewN d) ∧ ∃ bv : Bool, v = .bool bv ∧ (bv = true ↔ ¬ GoodX L o cp lst (pg, us)))
      case first =>
        by_cases h1 : er = 0
        · subst h1
          by_cases h2 : pp = pg ∧ oo = (o : Int)
          · obtain ⟨rfl, rfl⟩ := h2
            have hg := H5.out.1.1 ⟨rfl, rfl, rfl⟩
            have hne2 : ∀ W : World, (binOp .neq 126 (.agg #[.int .i64 pp, .int .i64 (o : Int)]) (.agg #[.int .i64 pp, .int .i64 (o : Int)])).run Try.prog W = .ok (.bool false) W := fun W => by rw [hne W]; simp
            have HG := Lib.hid hg
            clear hg hne
            by_cases h3 : pp ≤ lst
            · have h3b : decide (pp ≤ lst) = true := decide_eq_true h3
              go_quiet ((go_at_call 40; exact Calls.quiet_of (HCap.out _)))
              go_wp2_with (fail)
              go_meet
              exact ⟨⟨_, rfl⟩, true, rfl, ⟨fun _ h => by have := h.2.2.1; omega, fun _ => rfl⟩⟩
            · have h3b : decide (pp ≤ lst) = false := decide_eq_false h3
              by_cases h4 : q = cp
              · have h4b : ((q : Int) != (cp : Int)) = false := by rw [h4]; simp
                have HQ := Lib.hid h4
                clear h4
                go_quiet ((go_at_call 40; exact Calls.quiet_of (HCap.out _)))
                go_wp2_with (fail)
                go_meet
                exact ⟨⟨_, rfl⟩, false, rfl, ⟨(fun h => by cases h), fun h => absurd (show GoodX L o cp lst (pp, us) from ⟨HG.out.1, HG.out.2, by show lst < pp; omega, by show us.length = cp; rw [← HJ.out.2.2.2.2.2.2.2.1]; exact HQ.out⟩) h⟩⟩
              · have h4b : ((q : Int) != (cp : Int)) = true := by simp; omega
                have HQ := Lib.hid h4
                clear h4
                go_quiet ((go_at_call 40; exact Calls.quiet_of (HCap.out _)))
                go_wp2_with (fail)
                go_meet
                exact ⟨⟨_, rfl⟩, true, rfl, ⟨fun _ h => HQ.out (by rw [HJ.out.2.2.2.2.2.2.2.1]; exact h.2.2.2), fun _ => rfl⟩⟩
          · have hne2 : ∀ W : World, (binOp .neq 126 (.agg #[.int .i64 pp, .int .i64 oo]) (.agg #[.int .i64 pg, .int .i64 (o : Int)])).run Try.prog W = .ok (.bool true) W := fun W => by
              rw [hne W]
              have : (pp == pg && oo == (o : Int)) = false := by
                rw [Bool.and_eq_false_iff]
                by_cases e : pp = pg
                · exact .inr (by rw [beq_eq_false_iff_ne]; exact fun e2 => h2 ⟨e, e2⟩)
                · exact .inl (by rw [beq_eq_false_iff_ne]; exact e)
              rw [this]; rfl
            have HH := Lib.hid h2
            clear h2 hne
            go_quiet (fail)
            go_wp2_with (fail)
            go_meet
            exact ⟨⟨_, rfl⟩, true, rfl, ⟨fun _ h => HH.out (H5.out.1.2 ⟨h.1, h.2.1⟩).2, fun _ => rfl⟩⟩
        · have h1b : (er != 0) = true := by rw [bne_iff_ne]; exact h1
          have HH := Lib.hid h1
          clear h1 hne
          go_quiet (fail)
          go_wp2_with (fail)
          go_meet
          exact ⟨⟨_, rfl⟩, true, rfl, ⟨fun _ h => HH.out (H5.out.1.2 ⟨h.1, h.2.1⟩).1, fun _ => rfl⟩⟩
      case rest =>
        obtain ⟨⟨dd, hwc⟩, bv, rfl, hbv⟩ := hcut
        cases bv with
        | true =>
          have HV := Lib.hid (And.intro hwc (hbv.1 rfl))
          clear hwc hbv
          go_wp2_with (fail)
          go_ret2
          refine ⟨?_, .inr ⟨fun h => ?_, rfl⟩⟩
          · have h1 := HX.out.2.2.2.2.2.1
            have h2 := below_step (below_step h1 HJ.out.2.2.2.1 (Nat.le_refl _)) H5.out.2.2.1 (Nat.le_refl _)
            rw [HV.out.1]
            exact below_drewN h2 _
          · refine okX_not HJ.out.2.2.2.2.2.1 ?_ h.1
            rw [← H5.out.2.2.2.2.2.2.2.1, ← H5.out.2.2.2.2.2.2.2.2.1]
            exact HV.out.2
        | false =>
          have hgood : GoodX L o cp lst (pg, us) := Classical.byContradiction fun h => by have := hbv.2 h; cases this
          have HV := Lib.hid (And.intro hwc hgood)
          clear hwc hbv hgood
          obtain ⟨Wc, rfl⟩ : ∃ Wc : World, Wc = wc := ⟨_, rfl⟩
          have hhp : ∀ z : Nat, Wc.heap[z]? = W5.heap[z]? := fun z => by rw [HV.out.1]; rfl
          have hxc := (hhp X).trans H5.out.2.2.2.1
          obtain ⟨x0, x1, _, _⟩ := two_cells hxc
          have hbwc : Below wr.heap.size wr Wc := by rw [HV.out.1]; exact below_drewN H5.out.2.2.1 _
          have hUc : BoolAt 0 (World.drew Wc) U1 cu1 us := (HJ.out.2.2.2.2.2.2.1.keep (Nat.le_trans HJ.out.2.2.2.1.size hbwc.size) fun z _ hz => (hbwc.block z (by have := HJ.out.2.2.2.1.size; omega)).trans (HJ.out.2.2.2.1.block z hz))
          have hqc : q = cp := by have := HV.out.2.2.2.2; rw [← HJ.out.2.2.2.2.2.2.2.1] at this; exact this
          have hcp1 : 1 ≤ cp ∧ cp ≤ 128 := by rw [H5.out.2.2.2.2.2.2.2.2.1]; exact hcpp
          have hcln := clone_ok (World.drew Wc) U1 cu1 us (by have := HJ.out.2.2.2.2.2.2.2.1; omega) hUc (by have := HJ.out.2.2.2.2.2.2.2.1; omega)
          rw [← HJ.out.2.2.2.2.2.2.2.1] at hcln
          have HCl := Lib.hid hcln
          have HWc := Lib.hid (And.intro hhp (And.intro hxc (And.intro hbwc hqc)))
          have hXl : X < Wc.heap.size := lt_of_heap hxc
          clear hhp hxc hbwc hqc hUc hcln x50 x51 y50 y51 r1 k1 k2
          go_upto_region 12 with (fail)
          go_cut [13] from 71 to 116 (fun v wx => ∃ p u uc, v = .pointer (some ⟨p, 0, none⟩) ∧ wx.heap[p]? = some (.cells #[.int .i64 pg, .slice (some ⟨u, 0, none⟩) q uc, .int .i64 0] 101 (0, 0)) ∧ wx.ownsRow Wc.heap.size 4 1 (.slice (some ⟨u, 0, none⟩) q uc) q (bcells us) ∧ Below Wc.heap.size Wc wx ∧ Wc.heap.size ≤ p ∧ u < p ∧ wx.heap.size = p + 1)
          case first =>
            go_region_law (go_simp; go_at_call 60; refine HCl.out.mono ?_; rintro _ w6 ⟨A6, c6, rfl, hr6, hb6⟩; have x0' := cell_keep2 (w1 := World.drew Wc) hb6 x0; have H6 := Lib.hid (And.intro hr6 hb6); clear hr6 hb6)
            all_goals
              go_wp2_with (fail)
              go_meet
              exact slab_made HJ.out.2.2.2.2.2.2.2.1 (by have := HWc.out.2.2.2; omega) H6.out.1 ⟨H6.out.2.os, H6.out.2.tape, H6.out.2.output, H6.out.2.size, H6.out.2.block⟩
          case rest =>
            have hqc := HWc.out.2.2.2
            obtain ⟨p, u, uc, rfl, hp0, hru, hbd, hpw, hup, hpsz⟩ := hcut
            have hXd := (hbd.block X hXl).trans HWc.out.2.1
            obtain ⟨z0, z1, _, _⟩ := two_cells hXd
            obtain ⟨pc0, pc1, pc2, pcf⟩ := three_cells hp0
            have hbrd : Below wr.heap.size wr wc := HWc.out.2.2.1.trans (hbd.mono HWc.out.2.2.1.size)
            have hnX : X ≠ p := by omega
            have HD := Lib.hid (And.intro hp0 (And.intro hru (And.intro hbd (And.intro hpw (And.intro hup (And.intro hpsz (And.intro hXd hbrd)))))))
            clear hp0 hru hbd hpw hup hpsz hXd hbrd hqc x0 x1
            obtain ⟨Wr, rfl⟩ : ∃ W : World, W = wr := ⟨_, rfl⟩
            obtain ⟨Wd, rfl⟩ : ∃ W : World, W = wc := ⟨_, rfl⟩
            go_wp2_with (fail)
            go_loopw [81] (fun i wx => ∃ t : Nat, t ≤ q ∧ i = .int .i64 (t : Int) ∧ OnlyB (some p) Wd wx ∧ wx.heap[p]? = some (.cells #[.int .i64 pg, .slice (some ⟨u, 0, none⟩) q uc, .int .i64 (((us.take t).count true : Nat) : Int)] 101 (0, 0))) (fun i _ => q - (intOf i).toNat)
            case atStart => exact ⟨0, Nat.zero_le _, rfl, ⟨rfl, rfl, rfl, rfl, fun _ _ => rfl⟩, HD.out.1⟩
            case round =>
              obtain ⟨t, ht, rfl, hon, hpt⟩ := hrel
              have e0 : (0 : Int) ≤ (t : Int) := by omega
              by_cases htl : t < q
              · have e1 : (t : Int) < (q : Int) := by omega
                have hkt : IntKind.i64.wrap ((t : Int) + 1) = ((t + 1 : Nat) : Int) := by rw [IntWalk.i64_in _ (by omega)]; rfl
                have htu : t < us.length := by rw [← HJ.out.2.2.2.2.2.2.2.1]; exact htl
                obtain ⟨v, hv⟩ : ∃ v, us[t]? = some v := ⟨_, List.getElem?_eq_getElem htu⟩
                obtain ⟨g2, o2, rfl, _, hg2, d2⟩ := HJ.out.2.2.2.2.2.2.1.2.2 t v hv
                have hcnt : (us.take (t + 1)).count true = (us.take t).count true + (if v then 1 else 0) := by
                  rw [List.take_succ_eq_append_getElem htu, List.count_append]
                  rw [List.getElem?_eq_getElem htu] at hv; injection hv with hv
                  rw [hv]; cases v <;> rfl
                have hgp : g2 ≠ p := by have := HD.out.2.2.2.1; have := HWc.out.2.2.1.size; have := HJ.out.2.2.2.1.size; omega
                have d3 := ((World.cell?_of_block (a := ⟨g2, o2 + t, none⟩) (hon.block g2 (by rintro ⟨⟩; exact hgp rfl))).trans (((HJ.out.2.2.2.1.trans (HD.out.2.2.2.2.2.2.2.mono HJ.out.2.2.2.1.size)).cell (p := ⟨g2, o2 + t, none⟩) hg2).trans d2))
                have hct : (us.take t).count true ≤ t := Nat.le_trans List.count_le_length (by rw [List.length_take]; exact Nat.min_le_left _ _)
                obtain ⟨pd0, pd1, pd2, _⟩ := three_cells hpt
                have hcw : IntKind.i64.wrap ((((us.take t).count true : Nat) : Int) + 1) = (((us.take t).count true + 1 : Nat) : Int) := by rw [IntWalk.i64_in _ (by omega)]; rfl
                have Hon := Lib.hid (And.intro hon (And.intro hpt hcnt))
                clear hon hcnt
                cases v with
                | false =>
                  go_wp2_with (fail)
                  refine ⟨⟨t + 1, by omega, rfl, Hon.out.1, ?_⟩, by show q - ((t : Int) + 1).toNat < q - (t : Int).toNat; omega⟩
                  rw [Hon.out.2.2]; exact Hon.out.2.1
                | true =>
                  go_wp2_with (fail)
                  refine ⟨⟨t + 1, by omega, rfl, ?_, ?_⟩, by show q - ((t : Int) + 1).toNat < q - (t : Int).toNat; omega⟩
                  · exact ⟨Hon.out.1.os, Hon.out.1.tape, Hon.out.1.output, (setCell_size _ _ _).trans Hon.out.1.size, fun k hk => (setCell_far _ _ _ _ (fun e => hk (congrArg some e).symm)).trans (Hon.out.1.block k hk)⟩
                  · rw [Hon.out.2.2]; exact setCell_at _ _ _ _ _ _ Hon.out.2.1
              · have htq : t = q := by omega
                have e1 : ¬ ((t : Int) < (q : Int)) := by omega
                obtain ⟨pd0, pd1, pd2, _⟩ := three_cells hpt
                have hcl1 := lt_of_heap HJ.out.1.cell
                have hbrw := HD.out.2.2.2.2.2.2.2
                have hpn : c ≠ p := by have := HD.out.2.2.2.1; have := HWc.out.2.2.1.size; omega
                obtain ⟨c0, c1, c2, c3, c4, c5⟩ := six_cells ((hon.block c (fun h => hpn (Option.some.inj h).symm)).trans ((hbrw.block c hcl1).trans HJ.out.1.cell))
                have hm1 := (us.take t).count true
                obtain ⟨m, hm⟩ : ∃ m, m = us.count true := ⟨_, rfl⟩
                have hmt : (us.take t).count true = m := by rw [hm, htq, HJ.out.2.2.2.2.2.2.2.1, List.take_of_length_le (Nat.le_refl _)]
                rw [hmt] at hpt pd2
                obtain ⟨E0, hE0⟩ : ∃ E0, E0 = emptyS (loadS (l.take k)) := ⟨_, rfl⟩
                have hE1 : emptyS (loadS (l.take (k + 1))) = E0 + if m = 0 then 1 else 0 := by
                  rw [load_snoc HJ.out.2.2.2.2.2.1, empty_snoc, hE0, hm]; rfl
                have hk1 : k ≤ 1024 := by
                  have h1 := okX_len HX.out.1.2 HJ.out.2.2.2.2.1
                  rw [List.length_take] at h1
                  have := HX.out.2.2.2.2.1
                  omega
                have hEk : E0 ≤ k := by
                  have h1 : E0 ≤ (loadS (l.take k)).length := by rw [hE0]; exact List.length_filter_le _ _
                  have h2 : (loadS (l.take k)).length ≤ k := by unfold loadS; rw [List.length_map, List.length_take]; exact Nat.min_le_left _ _
                  omega
                have hcw : IntKind.i64.wrap ((E0 : Int) + 1) = ((E0 + 1 : Nat) : Int) := by rw [IntWalk.i64_in _ (by omega)]; rfl
                rw [← hE0] at c5
                obtain ⟨rl, hrl⟩ : ∃ rl, rl = R.length := ⟨_, rfl⟩
                rw [← hrl] at c4
                have hcell := (hon.block c (fun h => hpn (Option.some.inj h).symm)).trans ((hbrw.block c hcl1).trans HJ.out.1.cell)
                rw [← hE0, ← hrl] at hcell
                have hrll : rl ≤ k := by
                  have h1 := HJ.out.1.len
                  have h2 : (loadS (l.take k)).length ≤ k := by unfold loadS; rw [List.length_map, List.length_take]; exact Nat.min_le_left _ _
                  have h3 : R.length = (loadS (l.take k)).length := h1
                  omega
                have hcwx : c < wr.heap.size := lt_of_heap hcell
                have Hon := Lib.hid (And.intro hon (And.intro hpt (And.intro hm (And.intro hE0 (And.intro hE1 (And.intro hrl hcell))))))
                have HTQ := Lib.hid htq
                clear hon hpt hm hmt hE0 hE1 hrl hcell hm1 hbrw htq
                go_upto_if 98 with (fail)
                go_cut [] from 97 to 105 (fun wz => OnlyB (some c) wr wz ∧ wz.heap[c]? = some (.cells #[.pointer (some ⟨b, 0, none⟩), .int .i64 (s : Int), .int .i64 (o : Int), .int .i64 (kp : Int), .slice A2 rl cap, .int .i64 ((E0 + (if m = 0 then 1 else 0) : Nat) : Int)] 78 (0, 0)))
                case first =>
                  by_cases hm0 : m = 0
                  · subst hm0
                    go_wp2_with (fail)
                    go_meet
                    refine ⟨⟨rfl, rfl, rfl, setCell_size _ _ _, fun z hz => setCell_far _ _ _ _ (fun e => hz (by rw [e]))⟩, ?_⟩
                    exact setCell_at _ _ _ _ _ _ Hon.out.2.2.2.2.2.2
                  · have hmb : (((m : Nat) : Int) == 0) = false := by simp [hm0]
                    go_wp2_with (fail)
                    go_meet
                    refine ⟨⟨rfl, rfl, rfl, rfl, fun _ _ => rfl⟩, ?_⟩
                    rw [if_neg hm0]
                    exact Hon.out.2.2.2.2.2.2
                case rest =>
                  obtain ⟨hoz, hcz⟩ := hcut
                  obtain ⟨e', he'⟩ : ∃ e', e' = E0 + (if m = 0 then 1 else 0) := ⟨_, rfl⟩
                  rw [← he'] at hcz
                  have hcl2 := lt_of_heap hcz
                  obtain ⟨_, _, _, _, z4, _, zf4, _⟩ := six_cells hcz
                  have hWp : Wr.heap.size ≤ p := by have := HD.out.2.2.2.1; have := HWc.out.2.2.1.size; omega
                  have hall : ∀ z, z < Wr.heap.size → z ≠ c → wc.heap[z]? = Wr.heap[z]? := fun z hz hzc => (hoz.block z (fun e => hzc (Option.some.inj e).symm)).trans ((Hon.out.1.block z (fun e => by have := Option.some.inj e; omega)).trans (HD.out.2.2.2.2.2.2.2.block z hz))
                  have hA2 : ∀ z, A2.map (·.block) = some z → own z = some 2 ∧ z < Wr.heap.size ∧ z ≠ c := fun z hz => ⟨HJ.out.1.ownG z hz, HJ.out.2.1 z (by rw [HJ.out.1.ownG z hz]; simp), fun e => by have h1 := HJ.out.1.ownG z hz; rw [e, HJ.out.1.ownC] at h1; cases h1⟩
                  have hrow : wc.ownsRow 0 97 1 (.slice A2 rl cap) rl (ptrs R) := by
                    rw [Hon.out.2.2.2.2.2.1]
                    refine row_same HJ.out.1.row fun g hg => ?_
                    have hg2 : A2.map (·.block) = some g := by rw [← own_blk]; exact hg
                    exact hall g (hA2 g hg2).2.1 (hA2 g hg2).2.2
                  have hsz : Wd.heap.size ≤ wc.heap.size := by have := hoz.size; have := Hon.out.1.size; omega
                  have HZ := Lib.hid (And.intro hoz (And.intro hcz (And.intro hall (And.intro hA2 (And.intro hrow (And.intro he' (And.intro hsz hWp)))))))
                  obtain ⟨i0, y0, hi0, hy0, hy1, hy2, hy3⟩ := info_open ptr_info
                  clear hoz hcz hall hA2 hrow he' hsz hWp c0 c1 c2 c3 c4 c5 pd0 pd1 pd2 hcwx hcl1
                  have z4a : (wc.alloc (.cells #[.pointer (some ⟨p, 0, none⟩)] 97)).cell? ⟨c, 4, none⟩ = some (.slice A2 rl cap) := (World.cell?_alloc_lt _ _ _ hcl2).trans z4
                  go_wp2_with (at_builtin; refine wpList_append_lies _ rfl (.tmp 110) (.tmp 112) _ rfl 0 97 i0 y0 1 8 Try.underlying76 hi0 hy0 hy1 hy2 hy3 (by omega) (.slice A2 rl cap) rl (ptrs R) rfl (HZ.out.2.2.2.2.1.alloc _) ⟨wc.heap.size, 0, none⟩ 1 1 [.pointer (some ⟨p, 0, none⟩)] rfl rfl (World.news_of_block (heap_alloc_new _ _)) (by simp [Value.oneCell']) (by omega) (by unfold maxLen; omega) (by omega) (by simp) (wc.heap.size + 1) (by simp) ?_
                               intro g1 cap1 w1 hown1 hgrow1 hat1 hlt1
                               have hcn : some c ≠ (Value.slice A2 rl cap).ownBlock := fun e => by rw [own_blk] at e; exact (HZ.out.2.2.2.1 c e.symm).2.2 rfl
                               have m0 := (hgrow1.block c (by simp; omega) hcn).trans ((alloc_old _ _ _ hcl2).trans HZ.out.2.1)
                               have hgc : g1 ≠ c := fun e => by
                                 rcases hat1 with h | h
                                 · exact hcn (by rw [← e]; exact h.symm)
                                 · omega
                               obtain ⟨_, _, _, _, d4, _, f4', _⟩ := six_cells m0
                               have H1 := Lib.hid (And.intro hown1 (And.intro hgrow1 (And.intro hat1 (And.intro m0 (And.intro hgc hlt1)))))
                               clear hown1 hgrow1 hat1 m0 hcn hgc)
                  refine ⟨⟨k + 1, by omega, rfl, ?_, ?_⟩, by show n - ((k : Int) + 1).toNat < n - (k : Int).toNat; omega⟩
                  · exact congrArg (Value.int .i64) (lastOf_succ HJ.out.2.2.2.2.2.1).symm
                  · exact load_tail HJ.out.1 HJ.out.2.1 HJ.out.2.2.1 HJ.out.2.2.2.1 HJ.out.2.2.2.2.1 HJ.out.2.2.2.2.2.1 (H5.out.2.2.2.2.2.2.2.1 ▸ H5.out.2.2.2.2.2.2.2.2.1 ▸ HV.out.2) HZ.out.2.2.2.2.2.2.2 HWc.out.2.2.1.size HD.out.2.2.2.2.2.2.2 HD.out.2.1 HD.out.2.2.2.2.1 HJ.out.2.2.2.2.2.2.2.1 Hon.out.1 Hon.out.2.1 Hon.out.2.2.1 HZ.out.1 Hon.out.2.2.2.2.2.1 HZ.out.2.1 (HZ.out.2.2.2.2.2.1.trans Hon.out.2.2.2.2.1.symm) H1.out.1 H1.out.2.1 H1.out.2.2.1
    · obtain rfl : k = n := by omega
      have e1 : ¬ ((k : Nat) : Int) < (k : Int) := by omega
      have hall : l.take k = l := by rw [HX.out.2.2.2.2.1, List.take_length]
      rw [hall] at hC hok
      obtain ⟨E, hE⟩ : ∃ E, E = emptyS (loadS l) := ⟨_, rfl⟩
      have hcell := hC.cell
      rw [← hE] at hcell
      obtain ⟨_, _, _, q3', _, q5'⟩ := six_cells hcell
      have HJ := Lib.hid (And.intro hC (And.intro hfr (And.intro hout (And.intro hb (And.intro hok (And.intro hE hall))))))
      clear hC hfr hout hb hok hE hall hcell
      by_cases hk2 : E ≤ kp
      · have hd : decide (kp < E) = false := decide_eq_false (by omega)
        have HK := Lib.hid hk2
        clear hk2
        go_wp2_with (fail)
        go_quiet (fail)
        go_wp2_with (fail)
        go_ret2
        obtain ⟨hC, hfr, hout, hb, hok, hE, hall⟩ := HJ.out
        have hemp : emptyS (loadS l) ≤ kp := by rw [← hE]; exact HK.out
        have hbf : Below w.heap.size w wr := HX.out.2.2.2.2.2.1.trans (hb.mono (by have := HX.out.2.2.2.2.2.2.1; omega))
        refine ⟨below_drewN hbf _, .inl ⟨hok, hemp, c, own, rfl, ?_, fun z hz hzb => hout z (by have := HX.out.2.2.2.2.2.2.1; omega) hzb, by have := HX.out.2.2.2.2.2.2.1; omega⟩⟩
        exact (show Held wr own c b ⟨s, o, kp, loadS l⟩ N L from ⟨⟨A2, cap, R, hC⟩, HX.out.1.keep (hb.block b HX.out.1.lt), okX_ca HX.out.2.1 HX.out.1.2 hok hemp, hfr⟩).below (below_drew _ _)
      · have hd : decide (kp < E) = true := decide_eq_true (by omega)
        have HK := Lib.hid hk2
        clear hk2
        go_wp2_with (fail)
        go_quiet (fail)
        go_wp2_with (fail)
        go_ret2
        obtain ⟨hC, hfr, hout, hb, hok, hE, hall⟩ := HJ.out
        have hbf : Below w.heap.size w wr := HX.out.2.2.2.2.2.1.trans (hb.mono (by have := HX.out.2.2.2.2.2.2.1; omega))
        exact ⟨below_drewN hbf _, .inr ⟨fun h => HK.out (by rw [hE]; exact h.2), rfl⟩⟩
end Sl
end Go.Proofs.Ytlknhbcambdccaa
namespace Go.Proofs.Ytlknhbcambdccaa
open Go.RowKit
namespace Sl
open Bu

/-- Owner of the reference, of any page. -/
theorem ownerR_any (w : World) (N : Nat) (A : Option Addr) (c : Nat) (L : List Blk) (page : Int) (o : Nat) (h : BlkAt w A c L) (hS : St N L) :
    Calls Try.prog 90 #[sv N A L.length c, .int .i64 page] w fun e w' => (∃ pp oo er : Int, e = .returned (.tuple #[.agg #[.int .i64 pp, .int .i64 oo], .int .i64 er]) ∧ ((er = 0 ∧ pp = page ∧ oo = (o : Int)) ↔ (0 ≤ page ∧ (page.toNat, o) ∈ L))) ∧ Below w.heap.size w w' := by
  by_cases hp : page < 0 ∨ ((2 ^ N : Nat) : Int) ≤ page
  · refine (ownerR_bad w N A c L page hS.n10 hp).mono ?_
    rintro e w' ⟨he, hb⟩
    refine ⟨⟨0, 0, 7, he, ⟨fun h => by omega, fun ⟨h1, h2⟩ => ?_⟩⟩, hb⟩
    exfalso
    have h3 := (hS.inb _ h2)
    have h4 : page.toNat + 2 ^ o ≤ 2 ^ N := h3.2.2
    have := pow_pos2 o
    omega
  · obtain ⟨p, rfl⟩ := Int.eq_ofNat_of_zero_le (show 0 ≤ page by omega)
    have hp2 : p < 2 ^ N := by omega
    refine (ownerR_ok w N A c L p hS.n10 h (st_le hS) hp2).mono ?_
    rintro e w' ⟨he, hb⟩
    refine ⟨?_, hb⟩
    cases ho : ownerB L p with
    | none =>
      rw [ho] at he
      refine ⟨0, 0, 4, he, ⟨fun h => by omega, fun ⟨_, h2⟩ => ?_⟩⟩
      rw [Int.toNat_natCast] at h2
      exact absurd ⟨Nat.le_refl _, (by have := pow_pos2 o; show p < p + 2 ^ o; omega)⟩ (ownerB_none ho h2)
    | some x =>
      rw [ho] at he
      obtain ⟨g1, g2, g3⟩ := ownerB_some ho
      refine ⟨(x.1 : Int), (x.2 : Int), 0, he, ⟨fun ⟨_, h1, h2⟩ => ⟨by omega, ?_⟩, fun ⟨_, h2⟩ => ?_⟩⟩
      · have e1 : x.1 = p := by omega
        have e2 : x.2 = o := by omega
        rw [Int.toNat_natCast, ← e1, ← e2]; exact g1
      · rw [Int.toNat_natCast] at h2
        have h3 := ownerB_of hS (p := p) h2 (Nat.le_refl _) (by have := pow_pos2 o; show p < p + 2 ^ o; omega)
        rw [ho] at h3
        injection h3 with h3
        rw [h3]
        exact ⟨rfl, rfl, rfl⟩

/-- What Valid returns. -/
def ValR (o cap kp : Nat) (L : List Blk) (l : List (Int × List Bool)) (e : Ending) : Prop := ∃ bv : Bool, e = .returned (.bool bv) ∧ (bv = true ↔ (OkX L o cap l ∧ emptyS (loadS l) ≤ kp))

set_option maxRecDepth 100000 in
set_option maxHeartbeats 8000000 in
theorem validR_ok (w : World) (N s o kp : Nat) (L : List Blk) (A : Option Addr) (c : Nat) (A2 : Option Addr) (c2 : Nat) (l : List (Int × List Bool)) (h8 : 8 ≤ s) (h4 : o ≤ 4) (hB : BlkAt w A c L) (hS : St N L) (h : SbAt 0 w A2 c2 l) (hl64 : ∀ x ∈ l, -9223372036854775808 ≤ x.1 ∧ x.1 < 9223372036854775808) :
    Calls Try.prog 68 #[sv N A L.length c, stv (s : Int) (o : Int) (kp : Int) A2 l.length c2] w fun e w' => ValR o (capa s o) kp L l e ∧ Below w.heap.size w w' := by
  obtain ⟨n, hn⟩ : ∃ n, n = l.length := ⟨_, rfl⟩
  obtain ⟨q0, hq0⟩ : ∃ q, q = L.length := ⟨_, rfl⟩
  obtain ⟨W1, hW1⟩ : ∃ W1, W1 = (w.alloc (.cells #[.int .i64 (N : Int), .slice A q0 c] 46)).alloc (.cells #[.int .i64 (s : Int), .int .i64 (o : Int), .int .i64 (kp : Int), .slice A2 n c2] 69) := ⟨_, rfl⟩
  have hb1 : Below w.heap.size w W1 := by rw [hW1]; exact (below_box w _).alloc (by simp) _
  have hs1 : W1.heap.size = w.heap.size + 2 := by rw [hW1]; simp
  have hA1 : W1.heap[w.heap.size]? = some (.cells #[.int .i64 (N : Int), .slice A q0 c] 46 (0, 0)) := by
    rw [hW1, alloc_old _ _ _ (by simp), heapAlloc, if_pos rfl]
  obtain ⟨B, hBe⟩ : ∃ B, B = w.heap.size + 1 := ⟨_, rfl⟩
  have hB1 : W1.heap[B]? = some (.cells #[.int .i64 (s : Int), .int .i64 (o : Int), .int .i64 (kp : Int), .slice A2 n c2] 69 (0, 0)) := by
    rw [hW1, hBe, heapAlloc, if_pos (by simp)]
  obtain ⟨a0, a1, _, _⟩ := Bu.two_cells hA1
  obtain ⟨b0, b1, b2, b3⟩ := four_at hB1
  have hln := h.1
  have hlm := h.2.1
  unfold maxLen at hlm
  have hcap := fun W => (capacityR_ok W s o h8 h4).mono (R' := fun e w' => e = .returned (.int .i64 ((capa s o : Nat) : Int)) ∧ w' = W) fun _ _ ⟨he, hw⟩ => ⟨he, hw.symm⟩
  obtain ⟨cp, hcp⟩ : ∃ cp, cp = capa s o := ⟨_, rfl⟩
  rw [← hcp] at hcap ⊢
  have HCap := Lib.hid hcap
  have HX := Lib.hid (And.intro (h.below hb1) (And.intro hn (And.intro hb1 (And.intro hs1 (And.intro hA1 (And.intro hB1 (And.intro (hB.below hb1) (And.intro hS (And.intro hl64 (And.intro hq0 hBe))))))))))
  have HW := Lib.hid hW1
  have HB := Lib.hid hBe
  have hwW : w.heap.size < W1.heap.size := by omega
  have hBW : B < W1.heap.size := by omega
  rw [← hn] at hln ⊢
  rw [← hq0]
  clear h hn hb1 hs1 hA1 hB1 hB hS hl64 hq0 hW1 hBe hcap hcp
  go_enter Try.func68, Try.ntmps68
  go_wp2_with (fail)
  rw [← HW.out, ← HB.out]
  go_loopw [5] (fun i wr => ∃ k : Nat, k ≤ n ∧ i = .int .i64 (k : Int) ∧ OkX L o cp (l.take k) ∧ Below W1.heap.size W1 wr) (fun i _ => n - (intOf i).toNat)
  case atStart => exact ⟨0, Nat.zero_le _, rfl, (fun i x hx => by simp at hx), Below.refl _ _⟩
  case round =>
    obtain ⟨k, hk, rfl, hok, hb⟩ := hrel
    have e0 : (0 : Int) ≤ (k : Int) := by omega
    replace a0 := (hb.cell (p := ⟨w.heap.size, 0, none⟩) hwW).trans a0
    replace a1 := (hb.cell (p := ⟨w.heap.size, 1, none⟩) hwW).trans a1
    replace b0 := (hb.cell (p := ⟨B, 0, none⟩) hBW).trans b0
    replace b1 := (hb.cell (p := ⟨B, 1, none⟩) hBW).trans b1
    replace b2 := (hb.cell (p := ⟨B, 2, none⟩) hBW).trans b2
    replace b3 := (hb.cell (p := ⟨B, 3, none⟩) hBW).trans b3
    by_cases hlt : k < n
    · have e1 : (k : Int) < (n : Int) := by omega
      have hkk : IntKind.i64.wrap ((k : Int) + 1) = ((k + 1 : Nat) : Int) := by rw [IntWalk.i64_in _ (by omega)]; rfl
      obtain ⟨⟨pg, us⟩, hx⟩ : ∃ x, l[k]? = some x := ⟨_, List.getElem?_eq_getElem (by have := HX.out.2.1; omega)⟩
      obtain ⟨g1, o1, U1, cu1, rfl, hg1, d0, d1, hU1⟩ := sb_at HX.out.1 hx
      dsimp only at d0 d1 hU1
      replace d0 := (hb.cell (p := ⟨g1, o1 + k * 2, none⟩) hg1).trans d0
      replace d1 := (hb.cell (p := ⟨g1, o1 + k * 2 + 1, none⟩) hg1).trans d1
      have hpr : 0 < k → wr.cell? ⟨g1, o1 + (k - 1) * 2, none⟩ = some (.int .i64 (lastOf l k)) := by
        intro hk0
        obtain ⟨y, hy⟩ : ∃ y, l[k - 1]? = some y := ⟨_, List.getElem?_eq_getElem (by have := HX.out.2.1; omega)⟩
        obtain ⟨g2, o2, U2, cu2, e2, hg2, d2, _⟩ := sb_at HX.out.1 hy
        injection e2 with e2; injection e2 with e2 e3
        subst e2; subst e3
        have := (hb.cell (p := ⟨g1, o1 + (k - 1) * 2, none⟩) hg2).trans d2
        unfold lastOf
        rw [if_neg (by omega), hy]
        exact this
      have hbs := hb.size
      obtain ⟨q, hq⟩ : ∃ q, q = us.length := ⟨_, rfl⟩
      have hm1 := hU1.1
      have hx1 := hU1.2.1
      unfold maxLen at hx1
      rw [← hq] at d1 hm1
      obtain ⟨X, hX⟩ : ∃ X, X = wr.heap.size := ⟨_, rfl⟩
      obtain ⟨W3, hW3⟩ : ∃ W3, W3 = wr.alloc (.cells #[.int .i64 pg, .slice U1 q cu1] 90) := ⟨_, rfl⟩
      have hb3 : Below wr.heap.size wr W3 := by rw [hW3]; exact below_box wr _
      have hx3 : W3.heap[X]? = some (.cells #[.int .i64 pg, .slice U1 q cu1] 90 (0, 0)) := by rw [hW3, hX, heapAlloc, if_pos rfl]
      have hbr3 : Below W1.heap.size W1 W3 := hb.trans (hb3.mono hb.size)
      have hBr := HX.out.2.2.2.2.2.2.1.keep hbr3.size (fun g _ hg => hbr3.block g hg)
      have HO := Lib.hid (fun m => ownerR_any (W3.drewN m) N A c L pg o (hBr.below (below_drew W3 m)) HX.out.2.2.2.2.2.2.2.1)
      have HW3 := Lib.hid (And.intro hW3 hX)
      have HJ := Lib.hid (And.intro hok (And.intro hb (And.intro hx (And.intro hq (And.intro hb3 (And.intro hx3 (And.intro hbr3 hpr)))))))
      obtain ⟨lst, hlst⟩ : ∃ lst, lst = lastOf l k := ⟨_, rfl⟩
      clear hok hb hx hq hb3 hx3 hbr3 hW3 hX hBr hU1 hpr
      go_wp2_with (fail)
      rw [← HW3.out.1, ← HW3.out.2]
      have hXl : X < W3.heap.size := lt_of_heap HJ.out.2.2.2.2.2.1
      obtain ⟨x0, x1, _, _⟩ := Bu.two_cells HJ.out.2.2.2.2.2.1
      have hB3 : B < wr.heap.size := by omega
      have hw3 : w.heap.size < wr.heap.size := by omega
      have hg3 : g1 < wr.heap.size := by omega
      replace a0 := (HJ.out.2.2.2.2.1.cell (p := ⟨w.heap.size, 0, none⟩) hw3).trans a0
      replace a1 := (HJ.out.2.2.2.2.1.cell (p := ⟨w.heap.size, 1, none⟩) hw3).trans a1
      replace b0 := (HJ.out.2.2.2.2.1.cell (p := ⟨B, 0, none⟩) hB3).trans b0
      replace b1 := (HJ.out.2.2.2.2.1.cell (p := ⟨B, 1, none⟩) hB3).trans b1
      replace b3 := (HJ.out.2.2.2.2.1.cell (p := ⟨B, 3, none⟩) hB3).trans b3
      have hprev : 0 < k → W3.cell? ⟨g1, o1 + (k - 1) * 2, none⟩ = some (.int .i64 lst) := fun h => by rw [hlst]; exact (HJ.out.2.2.2.2.1.cell (p := ⟨g1, o1 + (k - 1) * 2, none⟩) hg3).trans (HJ.out.2.2.2.2.2.2.2 h)
      have HP := Lib.hid (And.intro hprev hlst)
      clear hprev hlst d0 d1
      go_upto_region 5 with (fail)
      go_cut [45] from 21 to 63 (fun v wx => (∃ d, wx = W3.drewN d) ∧ ∃ bv : Bool, v = .bool bv ∧ (bv = false ↔ ((k = 0 ∨ lst < pg) ∧ q = cp)))
      case first =>
        by_cases hk0 : k = 0
        · have hkz : decide (0 < k) = false := decide_eq_false (by omega)
          have HK := Lib.hid hk0
          clear hk0
          by_cases h4 : q = cp
          · have h4b : ((q : Int) != (cp : Int)) = false := by rw [h4]; simp
            have HQ := Lib.hid h4
            clear h4
            go_quiet ((go_at_call 64; exact Calls.quiet_of_same (HCap.out _)))
            go_wp2_with (fail)
            go_meet
            exact ⟨⟨_, rfl⟩, false, rfl, ⟨fun _ => ⟨.inl HK.out, HQ.out⟩, fun _ => rfl⟩⟩
          · have h4b : ((q : Int) != (cp : Int)) = true := by simp; omega
            have HQ := Lib.hid h4
            clear h4
            go_quiet ((go_at_call 64; exact Calls.quiet_of_same (HCap.out _)))
            go_wp2_with (fail)
            go_meet
            exact ⟨⟨_, rfl⟩, true, rfl, ⟨(fun h => by cases h), fun h => absurd h.2 HQ.out⟩⟩
        · have hkz : decide (0 < k) = true := decide_eq_true (by omega)
          have hpv := HP.out.1 (by omega)
          have hk1 : IntKind.i64.wrap ((k : Int) - 1) = ((k - 1 : Nat) : Int) := by rw [IntWalk.i64_in _ (by omega)]; omega
          have hk2 : (0 : Int) ≤ ((k - 1 : Nat) : Int) := by omega
          have hk3 : ((k - 1 : Nat) : Int) < (n : Int) := by omega
          have HK := Lib.hid hk0
          clear hk0
          by_cases h3 : pg ≤ lst
          · have h3b : decide (pg ≤ lst) = true := decide_eq_true h3
            go_quiet ((go_at_call 64; exact Calls.quiet_of_same (HCap.out _)))
            go_wp2_with (fail)
            go_meet
            exact ⟨⟨_, rfl⟩, true, rfl, ⟨(fun h => by cases h), fun h => h.1.elim (fun h => absurd h HK.out) (fun h => by omega)⟩⟩
          · have h3b : decide (pg ≤ lst) = false := decide_eq_false h3
            by_cases h4 : q = cp
            · have h4b : ((q : Int) != (cp : Int)) = false := by rw [h4]; simp
              have HQ := Lib.hid h4
              clear h4
              go_quiet ((go_at_call 64; exact Calls.quiet_of_same (HCap.out _)))
              go_wp2_with (fail)
              go_meet
              exact ⟨⟨_, rfl⟩, false, rfl, ⟨fun _ => ⟨.inr (by omega), HQ.out⟩, fun _ => rfl⟩⟩
            · have h4b : ((q : Int) != (cp : Int)) = true := by simp; omega
              have HQ := Lib.hid h4
              clear h4
              go_quiet ((go_at_call 64; exact Calls.quiet_of_same (HCap.out _)))
              go_wp2_with (fail)
              go_meet
              exact ⟨⟨_, rfl⟩, true, rfl, ⟨(fun h => by cases h), fun h => absurd h.2 HQ.out⟩⟩
      case rest =>
        obtain ⟨⟨dd, hwc⟩, bv, rfl, hbv⟩ := hcut
        cases bv with
        | true =>
          have hbad : ¬ ((k = 0 ∨ lst < pg) ∧ q = cp) := fun h => by have := hbv.2 h; cases this
          have HV := Lib.hid (And.intro hwc hbad)
          clear hwc hbv hbad
          go_wp2_with (fail)
          go_ret
          refine ⟨⟨false, rfl, ⟨(fun h => by cases h), fun h => ?_⟩⟩, ?_⟩
          · exfalso
            have hg := h.1 k _ HJ.out.2.2.1
            refine HV.out.2 ⟨.inr ?_, ?_⟩
            · rw [HP.out.2]; exact hg.2.2.1
            · rw [HJ.out.2.2.2.1]; exact hg.2.2.2
          · rw [HV.out.1]
            exact below_drewN (below_step HX.out.2.2.1 HJ.out.2.2.2.2.2.2.1 (Nat.le_refl _)) _
        | false =>
          have hgood := hbv.1 rfl
          have hO := HO.out dd
          rw [← hwc] at hO
          have hbc : Below W1.heap.size W1 wc := by rw [hwc]; exact below_drewN HJ.out.2.2.2.2.2.2.1 _
          have hxc : wc.heap[X]? = some (.cells #[.int .i64 pg, .slice U1 q cu1] 90 (0, 0)) := by rw [hwc]; exact HJ.out.2.2.2.2.2.1
          replace a0 : wc.cell? ⟨w.heap.size, 0, none⟩ = some (.int .i64 (N : Int)) := by rw [hwc]; exact a0
          replace a1 : wc.cell? ⟨w.heap.size, 1, none⟩ = some (.slice A q0 c) := by rw [hwc]; exact a1
          replace x0 : wc.cell? ⟨X, 0, none⟩ = some (.int .i64 pg) := by rw [hwc]; exact x0
          rw [← HX.out.2.2.2.2.2.2.2.2.2.1] at hO
          have HOc := Lib.hid hO
          have HV := Lib.hid (And.intro hgood (And.intro hbc hxc))
          have hXc : X < wc.heap.size := lt_of_heap hxc
          clear hwc hbv hgood hO hbc hxc b0 b1 b3 x1
          go_wp2_with (go_at_call 90; fail)
          refine HOc.out.mono ?_
          rintro _ W6 ⟨⟨pp, oo, er, rfl, hiff⟩, hb6⟩
          go_upto_region 8 with (fail)
          obtain ⟨Y, hY⟩ : ∃ Y, Y = W6.heap.size := ⟨_, rfl⟩
          obtain ⟨W7, hW7⟩ : ∃ W7, W7 = W6.alloc (.cells #[.int .i64 pp, .int .i64 oo] 126) := ⟨_, rfl⟩
          have hb7 : Below W6.heap.size W6 W7 := by rw [hW7]; exact below_box W6 _
          have hy7 : W7.heap[Y]? = some (.cells #[.int .i64 pp, .int .i64 oo] 126 (0, 0)) := by rw [hW7, hY, heapAlloc, if_pos rfl]
          rw [← hW7, ← hY]
          have hbc7 : Below wc.heap.size wc W7 := hb6.trans (hb7.mono hb6.size)
          have hx7 := (hbc7.block X hXc).trans HV.out.2.2
          have hb17 : Below W1.heap.size W1 W7 := HV.out.2.1.trans (hbc7.mono HV.out.2.1.size)
          have hBc7 := (hb17.block B hBW).trans HX.out.2.2.2.2.2.1
          obtain ⟨x70, _, _, _⟩ := Bu.two_cells hx7
          obtain ⟨y70, y71, _, _⟩ := Bu.two_cells hy7
          obtain ⟨_, b71, _, _⟩ := four_at hBc7
          have hne := fun W => run_blk_neq W pp oo pg (o : Int)
          have H7 := Lib.hid (And.intro hiff hb17)
          clear hiff hb6 hb7 hW7 hY hy7 hbc7 hx7 hb17 hBc7 a0 a1 x0
          have hnot : ¬ (er = 0 ∧ pp = pg ∧ oo = (o : Int)) → ¬ OkX L o cp l := fun h hk => h (H7.out.1.2 ⟨(hk k _ HJ.out.2.2.1).1, (hk k _ HJ.out.2.2.1).2.1⟩)
          have HN := Lib.hid hnot
          clear hnot
          by_cases h1 : er = 0
          · subst h1
            by_cases h2 : pp = pg ∧ oo = (o : Int)
            · obtain ⟨rfl, rfl⟩ := h2
              have hg2 := H7.out.1.1 ⟨rfl, rfl, rfl⟩
              have hne2 : ∀ W : World, (binOp .neq 126 (.agg #[.int .i64 pp, .int .i64 (o : Int)]) (.agg #[.int .i64 pp, .int .i64 (o : Int)])).run Try.prog W = .ok (.bool false) W := fun W => by rw [hne W]; simp
              have hgx : GoodX L o cp (lastOf l k) (pp, us) := ⟨hg2.1, hg2.2, by
                rcases HV.out.1.1 with h | h
                · rw [h]; unfold lastOf; rw [if_pos rfl]; show (-1 : Int) < pp; have := hg2.1; omega
                · rw [← HP.out.2]; exact h, by rw [← HJ.out.2.2.2.1]; exact HV.out.1.2⟩
              have hokn := okX_snoc HJ.out.1 HJ.out.2.2.1 hgx
              have HG := Lib.hid hokn
              clear hg2 hne hgx hokn
              go_wp2_with (fail)
              go_roundw
              case rel => exact ⟨k + 1, by omega, by go_num, HG.out, H7.out.2⟩
              case measure => simp [intOf]; omega
            · have hne2 : ∀ W : World, (binOp .neq 126 (.agg #[.int .i64 pp, .int .i64 oo]) (.agg #[.int .i64 pg, .int .i64 (o : Int)])).run Try.prog W = .ok (.bool true) W := fun W => by
                rw [hne W]
                have : (pp == pg && oo == (o : Int)) = false := by
                  rw [Bool.and_eq_false_iff]
                  by_cases e : pp = pg
                  · exact .inr (by rw [beq_eq_false_iff_ne]; exact fun e2 => h2 ⟨e, e2⟩)
                  · exact .inl (by rw [beq_eq_false_iff_ne]; exact e)
                rw [this]; rfl
              have HH := Lib.hid h2
              clear h2 hne
              go_wp2_with (fail)
              go_ret
              exact ⟨⟨false, rfl, ⟨(fun h => by cases h), fun h => absurd h.1 (HN.out (fun e => HH.out e.2))⟩⟩, below_step HX.out.2.2.1 H7.out.2 (Nat.le_refl _)⟩
          · have h1b : (er != 0) = true := by rw [bne_iff_ne]; exact h1
            have HH := Lib.hid h1
            clear h1 hne
            go_wp2_with (fail)
            go_ret
            exact ⟨⟨false, rfl, ⟨(fun h => by cases h), fun h => absurd h.1 (HN.out (fun e => HH.out e.1))⟩⟩, below_step HX.out.2.2.1 H7.out.2 (Nat.le_refl _)⟩
    · obtain rfl : k = n := by omega
      have e1 : ¬ ((k : Nat) : Int) < (k : Int) := by omega
      have hall : l.take k = l := by rw [HX.out.2.1, List.take_length]
      rw [hall] at hok
      obtain ⟨E, hE⟩ : ∃ E, E = emptyS (loadS l) := ⟨_, rfl⟩
      have hem := emptyR_ok (World.drew wr) (s : Int) (o : Int) (kp : Int) A2 c2 l ((HX.out.1.below hb).below (below_drew wr 1))
      rw [← hE, ← HX.out.2.1] at hem
      have HE := Lib.hid hem
      have hBwr : B < wr.heap.size := by have := hb.size; omega
      have HJ := Lib.hid (And.intro hok (And.intro hb (And.intro hE hall)))
      clear hok hb hE hall hem
      go_wp2_with (fail)
      go_region_with (go_at_call 83; refine HE.out.mono ?_; rintro _ W8 ⟨rfl, hb8⟩; have b2' : W8.cell? ⟨B, 2, none⟩ = some (.int .i64 (kp : Int)) := (hb8.cell (p := ⟨B, 2, none⟩) hBwr).trans b2; have H8 := Lib.hid hb8; clear hb8)
      all_goals
        go_wp2_with (fail)
        go_ret
        refine ⟨⟨decide (E ≤ kp), ?_, ?_⟩, ?_⟩
        · first | rfl | exact congrArg (fun x => Ending.returned (.bool x)) (by simp)
        · rw [decide_eq_true_eq, HJ.out.2.2.1]; exact ⟨fun h => ⟨HJ.out.1, h⟩, fun h => h.2⟩
        · exact below_step' (below_step HX.out.2.2.1 HJ.out.2.1 (Nat.le_refl _)) H8.out (Nat.le_refl _)
end Sl
end Go.Proofs.Ytlknhbcambdccaa
