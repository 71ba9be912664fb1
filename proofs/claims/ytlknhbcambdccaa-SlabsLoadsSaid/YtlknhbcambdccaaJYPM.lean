/- Load of a cache: one slab more, as it lies in memory. -/
import Derived.Test.YtlknhbcambdccaaJYP
import Derived.Test.YtlknhbcambdccaaK28
import Derived.Test.YtlknhbcambdccaaK23
namespace Go.Proofs.Ytlknhbcambdccaa
open Go.RowKit Go.Shelf
namespace Sl
open Bu

/-- What the loop of Load keeps. -/
def LoadI (W1 : World) (c b N s o kp : Nat) (L : List Blk) (l : List (Int × List Bool)) (k : Nat) (W : World) : Prop :=
  ∃ own A cap R, CacheAt W own c b ⟨s, o, kp, loadS (l.take k)⟩ (emptyS (loadS (l.take k))) A cap R ∧ Fresh own W ∧ (∀ z, z < W1.heap.size → z ≠ b → own z = none) ∧ Below W1.heap.size W1 W ∧ OkX L o (capa s o) (l.take k)

/-- What Load leaves. -/
def LoadR (w : World) (b N s o kp : Nat) (L : List Blk) (l : List (Int × List Bool)) (e : Ending) (w' : World) : Prop :=
  Below w.heap.size w w' ∧ ((OkX L o (capa s o) l ∧ emptyS (loadS l) ≤ kp ∧ ∃ c own, e = .returned (.tuple #[.pointer (some ⟨c, 0, none⟩), .int .i64 0]) ∧ Held w' own c b ⟨s, o, kp, loadS l⟩ N L ∧ (∀ z, z < w.heap.size → z ≠ b → own z = none) ∧ w.heap.size ≤ c) ∨
    (¬ (OkX L o (capa s o) l ∧ emptyS (loadS l) ≤ kp) ∧ e = .returned (.tuple #[.pointer none, .int .i64 6])))

theorem load_put {W1 wr W' : World} {own : Own?} {c b N s o kp k e' : Nat} {L : List Blk} {l : List (Int × List Bool)} {e : Nat} {A : Option Addr} {cap : Nat} {R : List Nat} {pg : Int} {us : List Bool} {u p g ucap cap' m : Nat}
    (hC : CacheAt wr own c b ⟨s, o, kp, loadS (l.take k)⟩ e A cap R) (hfr : Fresh own wr) (hout : ∀ z, z < W1.heap.size → z ≠ b → own z = none) (hb : Below W1.heap.size W1 wr) (hok : OkX L o (capa s o) (l.take k))
    (hx : l[k]? = some (pg, us)) (hg : GoodX L o (capa s o) (lastOf l k) (pg, us)) (hu : wr.heap.size ≤ u) (hp : wr.heap.size ≤ p) (hup : u ≠ p) (hgu : g ≠ u) (hgp : g ≠ p) (hgA : A.map (·.block) = some g ∨ wr.heap.size ≤ g)
    (hc' : W'.heap[c]? = some (.cells #[.pointer (some ⟨b, 0, none⟩), .int .i64 (s : Int), .int .i64 (o : Int), .int .i64 (kp : Int), .slice (some ⟨g, 0, none⟩) (R.length + 1) cap', .int .i64 (e' : Int)] 78 (0, 0)))
    (he' : e' = emptyS (loadS (l.take (k + 1))))
    (hr' : W'.ownsRow 0 97 1 (.slice (some ⟨g, 0, none⟩) (R.length + 1) cap') (R.length + 1) (ptrs R ++ [.pointer (some ⟨p, 0, none⟩)]))
    (hp' : W'.heap[p]? = some (.cells #[.int .i64 pg, .slice (some ⟨u, 0, none⟩) us.length ucap, .int .i64 (m : Int)] 101 (0, 0)))
    (hu' : W'.ownsRow 0 4 1 (.slice (some ⟨u, 0, none⟩) us.length ucap) us.length (bcells us)) (hm' : m = us.count true)
    (hk : ∀ z, z < wr.heap.size → z ≠ c → A.map (·.block) ≠ some z → W'.heap[z]? = wr.heap[z]?)
    (hmeta : W'.os = wr.os ∧ W'.tape = wr.tape ∧ W'.output = wr.output ∧ wr.heap.size ≤ W'.heap.size) : LoadI W1 c b N s o kp L l (k + 1) W' := by
  have hpg0 : 0 ≤ pg := hg.1
  have hpe : ((pg.toNat : Nat) : Int) = pg := Int.toNat_of_nonneg hpg0
  have hbelow := okX_below hok hx hg
  have hcl := lt_of_heap hC.cell
  have hAl : ∀ z, A.map (·.block) = some z → own z = some 2 ∧ z < wr.heap.size := fun z hz => ⟨hC.ownG z hz, hfr z (by rw [hC.ownG z hz]; simp)⟩
  have hnone : ∀ z, wr.heap.size ≤ z → own z = none := fun z hz => by
    cases ho : own z with
    | none => rfl
    | some v => have := hfr z (by rw [ho]; simp); omega
  have hlen : R.length = (loadS (l.take k)).length := hC.len
  have hpos : posS (loadS (l.take k)) pg.toNat = R.length := by rw [posS_all hbelow, hlen]
  have hins : insS (loadS (l.take k)) ⟨pg.toNat, us⟩ = loadS (l.take (k + 1)) := by rw [insS_all (x := ⟨pg.toNat, us⟩) hbelow, load_snoc hx]; rfl
  have hg0 : own g = some 2 ∨ own g = none := by
    rcases hgA with h | h
    · exact .inl (hAl g h).1
    · exact .inr (hnone g h)
  have hrow : ptrs R ++ [.pointer (some ⟨p, 0, none⟩)] = ptrs (R.take R.length ++ p :: R.drop R.length) := by
    rw [List.take_of_length_le (Nat.le_refl _), List.drop_eq_nil_of_le (Nat.le_refl _)]; unfold ptrs; rw [List.map_append]; rfl
  have key := cache_ins (W := wr) (W' := W') (e' := e') (p := pg.toNat) (u := u) (px := p) (g := g) (ucap := ucap) (m' := m) (us := us) (cap' := cap') hC (fun y hy => by have := hbelow y hy; have h2 : y.pg < pg.toNat := this; omega) (hnone u hu) (hnone p hp) hg0 hup hgu hgp hc'
    (by show W'.ownsRow 0 _ 1 _ _ (ptrs (R.take (posS (loadS (l.take k)) pg.toNat) ++ p :: R.drop (posS (loadS (l.take k)) pg.toNat))); rw [hpos, ← hrow]; exact hr') (by rw [hpe]; exact hp') hu' hm' (fun z hz hzc hzA hzl => hk z hzl hzc hzA)
  have key2 : CacheAt W' (ownI own p u g) c b ⟨s, o, kp, loadS (l.take (k + 1))⟩ (emptyS (loadS (l.take (k + 1)))) (some ⟨g, 0, none⟩) cap' (R.take (posS (loadS (l.take k)) pg.toNat) ++ p :: R.drop (posS (loadS (l.take k)) pg.toNat)) := by
    rw [← he', ← hins]; exact key
  have hsz := hmeta.2.2.2
  have hb1 := hb.size
  refine ⟨_, _, _, _, key2, fun z hz => ?_, fun z hz hzb => ?_, ⟨hmeta.1.trans hb.os, hmeta.2.1.trans hb.tape, hmeta.2.2.1.trans hb.output, Nat.le_trans hb.size hsz, fun z hz => ?_⟩, okX_snoc hok hx hg⟩
  · unfold ownI at hz
    split at hz
    · next e => rw [e]; exact (hu'.lt u rfl).2
    · split at hz
      · next e => rw [e]; exact lt_of_heap hp'
      · split at hz
        · next e => rw [e]; exact (hr'.lt g rfl).2
        · have := hfr z hz; omega
  · have h0 := hout z hz hzb
    unfold ownI
    rw [if_neg (by omega), if_neg (by omega), if_neg (fun e => ?_), h0]
    rcases hgA with h | h
    · have := (hAl g h).1; rw [← e, h0] at this; cases this
    · omega
  · have hzb : z = b ∨ own z = none := by
      by_cases e : z = b
      · exact .inl e
      · exact .inr (hout z hz e)
    rw [hk z (by omega) (fun e => ?_) (fun e => ?_)]
    · exact hb.block z hz
    · rcases hzb with h | h
      · have := hC.ownC; rw [← e, h, hC.ownB] at this; cases this
      · have := hC.ownC; rw [← e, h] at this; cases this
    · have h2 := (hAl z e).1
      rcases hzb with h | h
      · rw [h, hC.ownB] at h2; cases h2
      · rw [h] at h2; cases h2

theorem load_tail {W1 Wr Wd wr wc w1 : World} {own : Own?} {c b N s o kp k e' B : Nat} {L : List Blk} {l : List (Int × List Bool)} {e : Nat} {A : Option Addr} {cap : Nat} {R : List Nat} {pg : Int} {us : List Bool} {u p g rl q ucap cap' m : Nat}
    (hC : CacheAt Wr own c b ⟨s, o, kp, loadS (l.take k)⟩ e A cap R) (hfr : Fresh own Wr) (hout : ∀ z, z < W1.heap.size → z ≠ b → own z = none) (hb : Below W1.heap.size W1 Wr) (hok : OkX L o (capa s o) (l.take k))
    (hx : l[k]? = some (pg, us)) (hg : GoodX L o (capa s o) (lastOf l k) (pg, us)) (hWp : Wr.heap.size ≤ p) (hB : Wr.heap.size ≤ B) (hbd : Below Wr.heap.size Wr Wd)
    (hru : Wd.ownsRow B 4 1 (.slice (some ⟨u, 0, none⟩) q ucap) q (bcells us)) (hup : u < p) (hq : q = us.length) (hon : OnlyB (some p) Wd wr)
    (hpt : wr.heap[p]? = some (.cells #[.int .i64 pg, .slice (some ⟨u, 0, none⟩) q ucap, .int .i64 (m : Int)] 101 (0, 0))) (hm : m = us.count true) (hoz : OnlyB (some c) wr wc) (hrl : rl = R.length)
    (hcz : wc.heap[c]? = some (.cells #[.pointer (some ⟨b, 0, none⟩), .int .i64 (s : Int), .int .i64 (o : Int), .int .i64 (kp : Int), .slice A rl cap, .int .i64 (e' : Int)] 78 (0, 0)))
    (he' : e' = emptyS (loadS (l.take (k + 1))))
    (hown : w1.ownsRow 0 97 1 (.slice (some ⟨g, 0, none⟩) (rl + 1) cap') (rl + 1) (ptrs R ++ [.pointer (some ⟨p, 0, none⟩)]))
    (hgr : (wc.alloc (.cells #[.pointer (some ⟨p, 0, none⟩)] 97)).grownBy w1 (Value.slice A rl cap).ownBlock) (hat : (Value.slice A rl cap).ownBlock = some g ∨ g = wc.heap.size + 1) :
    LoadI W1 c b N s o kp L l (k + 1) (w1.setCell ⟨c, 4, none⟩ (.slice (some ⟨g, 0, none⟩) (rl + 1) cap')) := by
  have hcl := lt_of_heap hC.cell
  have hA : ∀ z, A.map (·.block) = some z → z < Wr.heap.size ∧ z ≠ c := fun z hz => ⟨hfr z (by rw [hC.ownG z hz]; simp), fun e => by have h1 := hC.ownG z hz; rw [e, hC.ownC] at h1; cases h1⟩
  have hbs := hbd.size
  have hos := hon.size
  have hzs := hoz.size
  have hgs := hgr.size
  have hals : (wc.alloc (.cells #[.pointer (some ⟨p, 0, none⟩)] 97)).heap.size = wc.heap.size + 1 := by simp
  have hat : A.map (·.block) = some g ∨ g = wc.heap.size + 1 := by rw [own_blk] at hat; exact hat
  rw [own_blk] at hgr
  have hu1 := hru.lt u rfl
  have hpl := lt_of_heap hpt
  have hpA : A.map (·.block) ≠ some p := fun e => by have := (hA p e).1; omega
  have huA : A.map (·.block) ≠ some u := fun e => by have := (hA u e).1; omega
  have hcA : A.map (·.block) ≠ some c := fun e => (hA c e).2 rfl
  have hgc : g ≠ c := fun e => by
    rcases hat with h | h
    · exact hcA (by rw [h, e])
    · omega
  have hsx : (w1.setCell ⟨c, 4, none⟩ (.slice (some ⟨g, 0, none⟩) (rl + 1) cap')).heap.size = w1.heap.size := setCell_size _ _ _
  have hw1 : ∀ z, z < wc.heap.size → A.map (·.block) ≠ some z → w1.heap[z]? = wc.heap[z]? := fun z hz hzA => (hgr.block z (by omega) (fun e => hzA e.symm)).trans (alloc_old _ _ _ hz)
  have hfin : ∀ z, z < wc.heap.size → z ≠ c → A.map (·.block) ≠ some z → (w1.setCell ⟨c, 4, none⟩ (.slice (some ⟨g, 0, none⟩) (rl + 1) cap')).heap[z]? = wc.heap[z]? := fun z hz hzc hzA => (setCell_far _ _ _ _ hzc).trans (hw1 z hz hzA)
  have hoz' : ∀ z, z ≠ c → wc.heap[z]? = wr.heap[z]? := fun z hz => hoz.block z (fun e => hz (Option.some.inj e).symm)
  have hon' : ∀ z, z ≠ p → wr.heap[z]? = Wd.heap[z]? := fun z hz => hon.block z (fun e => hz (Option.some.inj e).symm)
  refine load_put (u := u) (p := p) (g := g) (ucap := ucap) (cap' := cap') (m := m) (e' := e') hC hfr hout hb hok hx hg (by omega) hWp (by omega) (fun e => ?_) (fun e => ?_) ?_ ?_ he' ?_ ?_ ?_ hm (fun z hz hzc hzA => ?_) ?_
  · rcases hat with h | h
    · exact huA (by rw [h, e])
    · omega
  · rcases hat with h | h
    · exact hpA (by rw [h, e])
    · omega
  · rcases hat with h | h
    · exact .inl h
    · exact .inr (by omega)
  · rw [← hrl]; exact setCell_at _ _ _ _ _ _ ((hw1 c (by omega) hcA).trans hcz)
  · rw [← hrl]
    refine row_same hown fun z hz => setCell_far _ _ _ _ ?_
    injection hz with hz
    have hz : g = z := hz
    rw [← hz]; exact hgc
  · rw [hfin p (by omega) (by omega) hpA, hoz' p (by omega), ← hq]; exact hpt
  · rw [← hq]
    refine row_same (row_low hru (Nat.zero_le _)) fun z hz => ?_
    injection hz with hz
    have hz : u = z := hz
    rw [← hz, hfin u (by omega) (by omega) huA, hoz' u (by omega), hon' u (by omega)]
  · rw [hfin z (by omega) hzc hzA, hoz' z hzc, hon' z (by omega), hbd.block z hz]
  · exact ⟨hgr.os.trans (hoz.os.trans (hon.os.trans hbd.os)), hgr.tape.trans (hoz.tape.trans (hon.tape.trans hbd.tape)), hgr.output.trans (hoz.output.trans (hon.output.trans hbd.output)), by omega⟩
end Sl
end Go.Proofs.Ytlknhbcambdccaa
