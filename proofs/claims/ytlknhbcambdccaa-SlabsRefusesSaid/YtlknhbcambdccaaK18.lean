/- Slabs, plain: the last empty slab. Slabs: an object is freed; the plain law and the cache as it lies in memory. Free of a cache where a slab has the address, but there is nothing to free. The allocated objects of a cache: the iterator. -/
import Derived.Test.YtlknhbcambdccaaK17
import Derived.Test.YtlknhbcambdccaaK16
namespace Go.Proofs.Ytlknhbcambdccaa
namespace Sl
open Bu

theorem lastE_at {l : List Slb} {k : Nat} {x : Slb} (hx : l[k]? = some x) (hz : x.many = 0) (hno : ∀ (j : Nat) (y : Slb), k < j → l[j]? = some y → y.many ≠ 0) : lastE l = some k := by
  obtain ⟨hk, hke⟩ := List.getElem?_eq_some_iff.1 hx
  have hf : (l.reverse.findIdx? fun x => x.many == 0) = some (l.length - 1 - k) := by
    rw [List.findIdx?_eq_some_iff_getElem]
    refine ⟨by simp; omega, ?_, fun j hj => ?_⟩
    · rw [List.getElem_reverse]
      have : l.length - 1 - (l.length - 1 - k) = k := by omega
      simp only [this, hke, hz, beq_self_eq_true]
    · rw [List.getElem_reverse]
      have h1 := hno (l.length - 1 - j) _ (by omega) (List.getElem?_eq_getElem (by omega))
      simpa using h1
  unfold lastE
  rw [hf]
  show some (l.length - 1 - (l.length - 1 - k)) = some k
  congr 1; omega
theorem lastE_none {l : List Slb} (hno : ∀ (j : Nat) (y : Slb), l[j]? = some y → y.many ≠ 0) : lastE l = none := by
  have hf : (l.reverse.findIdx? fun x => x.many == 0) = none := by
    rw [List.findIdx?_eq_none_iff]
    intro x hx
    obtain ⟨j, hj⟩ := List.mem_iff_getElem?.1 (List.mem_reverse.1 hx)
    have := hno j x hj
    simpa using this
  unfold lastE
  rw [hf]; rfl
end Sl
end Go.Proofs.Ytlknhbcambdccaa
namespace Go.Proofs.Ytlknhbcambdccaa
open Go.RowKit
namespace Sl
open Bu

theorem holdS_some {order : Nat} {at_ : Int} : ∀ {l : List Slb} {i j d : Nat}, holdS order i l at_ = some (j, d) → ∃ x, i ≤ j ∧ l[j - i]? = some x ∧ hitS order at_ x ∧ d = (at_ - 64 * (x.pg : Int)).toNat := by
  intro l
  induction l with
  | nil => intro i j d h; cases h
  | cons y l ih =>
    intro i j d h
    unfold holdS at h
    split at h
    · next hh =>
      injection h with h
      injection h with h1 h2
      subst h1
      exact ⟨y, Nat.le_refl _, by simp, hh, h2.symm⟩
    · obtain ⟨x, h1, h2, h3, h4⟩ := ih h
      refine ⟨x, by omega, ?_, h3, h4⟩
      rw [show j - i = (j - (i + 1)) + 1 by omega, List.getElem?_cons_succ]
      exact h2

theorem freeC_hit {C : Ca} {L : List Blk} {at_ : Int} {j d : Nat} {x : Slb} (h : holdS C.order 0 C.sl at_ = some (j, d)) (hx : C.sl[j]? = some x) :
    freeC C L at_ = if d % C.size ≠ 0 ∨ x.us.length ≤ d / C.size then (4, C.sl, L)
      else if x.us[d / C.size]? ≠ some true then (9, C.sl, L)
      else if emptyS (setS C.sl j (d / C.size) false) ≤ C.keep then (0, setS C.sl j (d / C.size) false, L)
      else match lastE (setS C.sl j (d / C.size) false) with
        | none => (0, setS C.sl j (d / C.size) false, L)
        | some k => match (setS C.sl j (d / C.size) false)[k]? with
          | none => (0, setS C.sl j (d / C.size) false, L)
          | some y => (0, (setS C.sl j (d / C.size) false).eraseIdx k, delB L (y.pg, C.order)) := by
  unfold freeC
  rw [h]
  simp only [hx]
  rfl

/-- What Free leaves. -/
def FreeS (own : Own?) (c b : Nat) (C : Ca) (N : Nat) (L : List Blk) (at_ : Int) (w : World) (e : Ending) (w' : World) : Prop :=
  e = .returned (.int .i64 ((freeC C L at_).1 : Int)) ∧ Held w' own c b { C with sl := (freeC C L at_).2.1 } N (freeC C L at_).2.2 ∧ Keeps own own w w'

theorem many_set {x : Slb} {i : Nat} (hv : x.us[i]? = some true) : (⟨x.pg, x.us.set i false⟩ : Slb).many + 1 = x.many ∧ 1 ≤ x.many := by
  have h1 : (x.us.set i false).count true = x.us.count true - 1 := by
    have := count_set (us := x.us) (i := i) (v := false) hv
    rw [this, if_neg (by simp)]
  have h2 : 1 ≤ x.us.count true := List.count_pos_iff.2 (List.mem_of_getElem? hv)
  unfold Slb.many
  show (x.us.set i false).count true + 1 = _ ∧ _
  omega

/-- A slab's blocks are not the cache's other ones. -/
theorem slab_apart {w : World} {own : Own?} {c b : Nat} {C : Ca} {e : Nat} {A : Option Addr} {cap : Nat} {R : List Nat} {p u m ucap : Nat} {x : Slb} (h : CacheAt w own c b C e A cap R) (hs : SlabAt w own p u m ucap x) :
    p ≠ c ∧ u ≠ c ∧ u ≠ p ∧ p ≠ b ∧ u ≠ b ∧ c ≠ b := by
  have h1 := h.ownC
  have h2 := h.ownB
  have h3 := hs.ownP
  have h4 := hs.ownU
  refine ⟨fun e => ?_, fun e => ?_, fun e => ?_, fun e => ?_, fun e => ?_, fun e => ?_⟩
  · rw [e, h1] at h3; cases h3
  · rw [e, h1] at h4; injection h4 with h4; omega
  · rw [e, h3] at h4; injection h4 with h4; omega
  · rw [e, h2] at h3; cases h3
  · rw [e, h2] at h4; injection h4 with h4; omega
  · rw [e, h2] at h1; cases h1

/-- An object is freed: the slab's cells. -/
theorem cache_free {w W : World} {own : Own?} {c b : Nat} {C : Ca} {e : Nat} {A : Option Addr} {cap : Nat} {R : List Nat} {j i p u ucap : Nat} {x : Slb} {m : Nat} (h : CacheAt w own c b C e A cap R) (hj : R[j]? = some p) (hx : C.sl[j]? = some x) (hs : SlabAt w own p u x.many ucap x) (hv : x.us[i]? = some true) (hm : m + 1 = x.many)
    (hW : ∀ k : Nat, W.heap[k]? = ((w.setCell ⟨u, i, none⟩ (.bool false)).setCell ⟨p, 2, none⟩ (.int .i64 (m : Int))).heap[k]?) :
    CacheAt W own c b { C with sl := setS C.sl j i false } e A cap R := by
  obtain ⟨hpc, huc, hup, hpb, hub, hcb⟩ := slab_apart h hs
  have hil : i < x.us.length := (List.getElem?_eq_some_iff.1 hv).1
  refine cache_set (e' := e) (m' := m) (v := false) h hj hx hs ?_ ?_ ?_ ?_ ?_
  · rw [hW]; exact (setCell_far _ _ _ _ hpc.symm).trans ((setCell_far _ _ _ _ huc.symm).trans h.cell)
  · rw [hW]; exact setCell_at (w.setCell ⟨u, i, none⟩ (.bool false)) p 2 _ _ (.int .i64 (m : Int)) ((setCell_far _ _ _ _ hup.symm).trans hs.cell)
  · rw [show bcells (x.us.set i false) = (bcells x.us).set i (.bool false) from List.map_set]
    exact row_same (row_set hs.row (v := .bool false) hil) fun g hg => by
      injection hg with hg
      have hg : u = g := hg
      rw [hW, ← hg]
      exact setCell_far _ _ _ _ hup
  · have := (many_set hv).1
    unfold Slb.many at this hm
    have h2 : ((⟨x.pg, x.us.set i false⟩ : Slb).us).count true = (x.us.set i false).count true := rfl
    omega
  · intro k _ h1 h2 h3 _
    rw [hW]
    exact (setCell_far _ _ _ _ h2).trans (setCell_far _ _ _ _ h3)

/-- The number of empty slabs is written. -/
theorem cache_empty {w W : World} {own : Own?} {c b : Nat} {C : Ca} {e e' : Nat} {A : Option Addr} {cap : Nat} {R : List Nat} (h : CacheAt w own c b C e A cap R)
    (hW : ∀ k : Nat, W.heap[k]? = (w.setCell ⟨c, 5, none⟩ (.int .i64 (e' : Int))).heap[k]?) : CacheAt W own c b C e' A cap R := by
  have hcb : c ≠ b := fun e => by have := h.ownC; rw [e, h.ownB] at this; cases this
  have hg : ∀ g, A.map (·.block) = some g → g ≠ c := fun g hg e => by
    have := h.ownG g hg
    rw [e, h.ownC] at this; cases this
  refine ⟨h.ownC, h.ownB, ?_, ?_, h.ownG, h.len, h.nd, fun i p x hp hx => ?_⟩
  · rw [hW]; exact setCell_at w c 5 _ _ _ h.cell
  · refine row_same h.row fun g hg' => ?_
    rw [hW]
    exact setCell_far _ _ _ _ (hg g (by cases A with | none => cases hg' | some a => injection hg' with hg'; rw [← hg']; rfl))
  · obtain ⟨u, uc, hs⟩ := h.slab i p x hp hx
    obtain ⟨hpc, huc, _⟩ := slab_apart h hs
    refine ⟨u, uc, hs.same fun k hk _ => ⟨?_, rfl⟩⟩
    rw [hW]
    rcases hk with rfl | rfl
    · exact setCell_far _ _ _ _ hpc
    · exact setCell_far _ _ _ _ huc

theorem keeps_own {own : Own?} {w w' : World} (h1 : w'.os = w.os) (h2 : w'.tape = w.tape) (h3 : w'.output = w.output) (h4 : w.heap.size ≤ w'.heap.size) (h5 : ∀ k : Nat, k < w.heap.size → own k = none → w'.heap[k]? = w.heap[k]?) : Keeps own own w w' :=
  ⟨h1, h2, h3, h4, h5, fun _ _ => rfl, fun _ h => .inl h⟩
theorem empty_free {C : Ca} {j i m : Nat} {x : Slb} (hx : C.sl[j]? = some x) (hv : x.us[i]? = some true) (hm : m + 1 = x.many) : emptyS (setS C.sl j i false) = emptyS C.sl + (if m = 0 then 1 else 0) := by
  have h1 := empty_set (x := x) (y := ⟨x.pg, x.us.set i false⟩) hx
  have h2 := (many_set hv).1
  rw [setS_eq hx]
  rw [if_neg (by omega : ¬ x.many = 0), show (⟨x.pg, x.us.set i false⟩ : Slb).many = m by omega] at h1
  exact h1

/-- Free where no slab is given back. -/
theorem free_done {w w' : World} {own : Own?} {c b : Nat} {C : Ca} {N : Nat} {L : List Blk} {at_ : Int} {j d : Nat} {x : Slb} {A : Option Addr} {cap : Nat} {R : List Nat} (H : Held w own c b C N L) (hh : holdS C.order 0 C.sl at_ = some (j, d)) (hx : C.sl[j]? = some x) (hmod : d % C.size = 0) (hv : x.us[d / C.size]? = some true)
    (he : emptyS (setS C.sl j (d / C.size) false) ≤ C.keep) (hC : CacheAt w' own c b { C with sl := setS C.sl j (d / C.size) false } (emptyS (setS C.sl j (d / C.size) false)) A cap R) (hb : w'.heap[b]? = w.heap[b]?) (hK : Keeps own own w w') :
    FreeS own c b C N L at_ w (.returned (.int .i64 0)) w' := by
  have hl := (List.getElem?_eq_some_iff.1 hv).1
  have hf : freeC C L at_ = (0, setS C.sl j (d / C.size) false, L) := by
    rw [freeC_hit hh hx, if_neg (by omega), if_neg (fun h => h hv), if_pos he]
  unfold FreeS
  rw [hf]
  exact ⟨rfl, ⟨⟨A, cap, R, hC⟩, H.bu.keep hb, ok_set H.ok hx he, H.fresh.keeps hK⟩, hK⟩

theorem lastE_some {l : List Slb} {k : Nat} (h : lastE l = some k) : ∃ x, l[k]? = some x ∧ x.many = 0 := by
  unfold lastE at h
  cases hf : l.reverse.findIdx? (fun x => x.many == 0) with
  | none => rw [hf] at h; cases h
  | some q =>
    rw [hf] at h
    injection h with h
    rw [List.findIdx?_eq_some_iff_getElem] at hf
    obtain ⟨h1, h2, _⟩ := hf
    rw [List.getElem_reverse] at h2
    rw [List.length_reverse] at h1
    subst h
    exact ⟨_, List.getElem?_eq_getElem (by show l.length - 1 - q < l.length; omega), by simpa using h2⟩

theorem set_parts {C : Ca} {N : Nat} {L : List Blk} {j i : Nat} {x : Slb} {v : Bool} (h : CaOk C N L) (hx : C.sl[j]? = some x) :
    (setS C.sl j i v).Pairwise (fun a b => a.pg < b.pg) ∧ (∀ y ∈ setS C.sl j i v, (y.pg, C.order) ∈ L) ∧ ∀ y ∈ setS C.sl j i v, y.us.length = capa C.size C.order := by
  have hset := setS_eq (i := i) (v := v) hx
  have hmem : ∀ y ∈ setS C.sl j i v, ∃ z ∈ C.sl, z.pg = y.pg ∧ z.us.length = y.us.length := by
    intro y hy
    rw [hset] at hy
    obtain ⟨k, hk, hke⟩ := List.mem_iff_getElem.1 hy
    rw [List.getElem_set] at hke
    split at hke
    · rw [← hke]; exact ⟨x, List.mem_of_getElem? hx, rfl, by simp⟩
    · rw [← hke]; exact ⟨_, List.getElem_mem _, rfl, rfl⟩
  refine ⟨?_, fun y hy => ?_, fun y hy => ?_⟩
  · rw [hset, List.pairwise_iff_getElem]
    intro a b ha hb hab
    have ha' : a < C.sl.length := by simpa using ha
    have hb' : b < C.sl.length := by simpa using hb
    have key := List.pairwise_iff_getElem.1 h.asc a b ha' hb' hab
    have hjx := (List.getElem?_eq_some_iff.1 hx).2
    have hpg : ∀ k (hk : k < C.sl.length), ((C.sl.set j ⟨x.pg, x.us.set i v⟩)[k]'(by simpa using hk)).pg = (C.sl[k]).pg := by
      intro k hk
      rw [List.getElem_set]
      split
      · next e => subst e; rw [hjx]
      · rfl
    rw [hpg a ha', hpg b hb']
    exact key
  · obtain ⟨z, hz, h1, _⟩ := hmem y hy
    rw [← h1]; exact h.giv z hz
  · obtain ⟨z, hz, _, h2⟩ := hmem y hy
    rw [← h2]; exact h.len z hz

/-- Free where a slab is given back. -/
theorem free_gone {w w' : World} {own : Own?} {c b : Nat} {C : Ca} {N : Nat} {L : List Blk} {at_ : Int} {j d k : Nat} {x y : Slb} {A : Option Addr} {cap : Nat} {R : List Nat} (H : Held w own c b C N L) (hh : holdS C.order 0 C.sl at_ = some (j, d)) (hx : C.sl[j]? = some x) (hmod : d % C.size = 0) (hv : x.us[d / C.size]? = some true)
    (he : emptyS (setS C.sl j (d / C.size) false) = C.keep + 1) (hk : lastE (setS C.sl j (d / C.size) false) = some k) (hy : (setS C.sl j (d / C.size) false)[k]? = some y) (hz : y.many = 0)
    (hC : CacheAt w' own c b { C with sl := (setS C.sl j (d / C.size) false).eraseIdx k } C.keep A cap R) (hb : BuL w' b N (delB L (y.pg, C.order))) (hK : Keeps own own w w') :
    FreeS own c b C N L at_ w (.returned (.int .i64 0)) w' := by
  have hl := (List.getElem?_eq_some_iff.1 hv).1
  have hf : freeC C L at_ = (0, (setS C.sl j (d / C.size) false).eraseIdx k, delB L (y.pg, C.order)) := by
    rw [freeC_hit hh hx, if_neg (by omega), if_neg (fun h => h hv), if_neg (by omega), hk]
    simp only [hy]
  have hem : emptyS ((setS C.sl j (d / C.size) false).eraseIdx k) = C.keep := by
    have := empty_erase hy
    rw [if_pos hz] at this
    omega
  obtain ⟨hp1, hp2, hp3⟩ := set_parts (i := d / C.size) (v := false) H.ok hx
  unfold FreeS
  rw [hf]
  refine ⟨rfl, ⟨⟨A, cap, R, ?_⟩, hb, ?_, H.fresh.keeps hK⟩, hK⟩
  · show CacheAt w' own c b _ (emptyS ((setS C.sl j (d / C.size) false).eraseIdx k)) A cap R
    rw [hem]; exact hC
  · exact ok_del (k := k) (x := y) (l := setS C.sl j (d / C.size) false) H.ok.sz H.ok.od H.ok.kp H.ok.fit H.ok.st hp1 hp2 hp3 hy hz (Nat.le_of_eq he)
theorem free_worlds {w W1 W : World} {own : Own?} {c p u : Nat} (hb1 : Below w.heap.size w W1) (hp : own p ≠ none) (hu : own u ≠ none) (hc : own c ≠ none) (h1 : W.os = W1.os) (h2 : W.tape = W1.tape) (h3 : W.output = W1.output) (h4 : W.heap.size = W1.heap.size)
    (hW : ∀ k : Nat, k ≠ p → k ≠ u → k ≠ c → W.heap[k]? = W1.heap[k]?) : Keeps own own w W ∧ ∀ b, b < w.heap.size → b ≠ p → b ≠ u → b ≠ c → W.heap[b]? = w.heap[b]? := by
  have key : ∀ b, b < w.heap.size → b ≠ p → b ≠ u → b ≠ c → W.heap[b]? = w.heap[b]? := fun b hb e1 e2 e3 => (hW b e1 e2 e3).trans (hb1.block b hb)
  exact ⟨keeps_own (h1.trans hb1.os) (h2.trans hb1.tape) (h3.trans hb1.output) (by have := hb1.size; omega) (fun k hk hn => key k hk (fun e => hp (e ▸ hn)) (fun e => hu (e ▸ hn)) (fun e => hc (e ▸ hn))), key⟩
end Sl
end Go.Proofs.Ytlknhbcambdccaa
namespace Go.Proofs.Ytlknhbcambdccaa
open Go.RowKit
namespace Sl
open Bu

theorem quo_w64 (d s : Nat) (hd : d ≤ 65536) (hs : 8 ≤ s) : wrap64 ((d : Int).tdiv (s : Int)) = ((d / s : Nat) : Int) := by
  rw [← Int.ofNat_tdiv, ← w64]
  have h : d / s ≤ d := Nat.div_le_self _ _
  obtain ⟨q, hq⟩ : ∃ q : Nat, q = d / s := ⟨_, rfl⟩
  rw [← hq] at h ⊢
  exact IntWalk.i64_in _ (by omega)
theorem rem_w64 (d s : Nat) (hd : d ≤ 65536) (hs : 8 ≤ s) : wrap64 ((d : Int).tmod (s : Int)) = ((d % s : Nat) : Int) := by
  rw [← Int.ofNat_tmod, ← w64]
  have h : d % s ≤ d := Nat.mod_le _ _
  obtain ⟨q, hq⟩ : ∃ q : Nat, q = d % s := ⟨_, rfl⟩
  rw [← hq] at h ⊢
  exact IntWalk.i64_in _ (by omega)

/-- What is at hand where a slab has the address. -/
theorem hit_data {w : World} {own : Own?} {c b : Nat} {C : Ca} {N : Nat} {L : List Blk} (H : Held w own c b C N L) {at_ : Int} {j d : Nat} (hh : holdS C.order 0 C.sl at_ = some (j, d)) :
    ∃ x, C.sl[j]? = some x ∧ d ≤ 65536 ∧ d < 64 * 2 ^ C.order ∧ at_ = 64 * (x.pg : Int) + (d : Int) ∧ x.us.length = capa C.size C.order ∧ x.us.length ≤ 128 ∧ x.pg ≤ 1024 := by
  obtain ⟨x, _, h2, h3, h4⟩ := holdS_some hh
  have h16 : 2 ^ C.order ≤ 2 ^ 4 := Nat.pow_le_pow_right (by decide) H.ok.od
  obtain ⟨h5, h6⟩ := h3
  have hm := List.mem_of_getElem? h2
  have hl := H.ok.len x hm
  have hp : x.pg + 2 ^ C.order ≤ 1024 := (st_le H.ok.st _ (H.ok.giv x hm)).2
  exact ⟨x, by simpa using h2, by omega, by omega, by omega, hl, by rw [hl]; exact (capa_pos H.ok).2.1, by omega⟩

set_option maxRecDepth 100000 in
set_option maxHeartbeats 4000000 in
theorem freeS_bad1 (w : World) (own : Own?) (c b : Nat) (C : Ca) (N : Nat) (L : List Blk) (H : Held w own c b C N L) (at_ : Int) (ha1 : -9223372036854775808 ≤ at_) (ha2 : at_ < 9223372036854775808) (j d : Nat) (hhit : holdS C.order 0 C.sl at_ = some (j, d)) (hbad : d % C.size ≠ 0) :
    Calls Try.prog 11 #[.pointer (some ⟨c, 0, none⟩), .int .i64 at_] w fun e w' => e = .returned (.int .i64 4) ∧ Below w.heap.size w w' := by
  obtain ⟨x, hx, hd, -, -, -, hul, -⟩ := hit_data H hhit
  obtain ⟨W1, hW1⟩ : ∃ W1, W1 = w.alloc (.cells #[.pointer (some ⟨c, 0, none⟩)] 22) := ⟨_, rfl⟩
  have hb1 : Below w.heap.size w W1 := by rw [hW1]; exact below_box w _
  have hB1 : W1.heap[w.heap.size]? = some (.cells #[.pointer (some ⟨c, 0, none⟩)] 22 (0, 0)) := by rw [hW1, heapAlloc, if_pos rfl]
  obtain ⟨A, cap, R, hC⟩ := (H.below hb1).at_
  have hpg : ∀ x ∈ C.sl, x.pg ≤ 1024 := fun x hx => by
    have h2 : x.pg + 2 ^ C.order ≤ 1024 := (st_le H.ok.st _ (H.ok.giv x hx)).2
    have := pow_pos2 C.order
    omega
  have hh := holder_ok W1 own c b C _ A cap R hC hpg H.ok.od H.ok.sz.2.1 at_ ha1 ha2
  unfold HoldR at hh
  rw [hhit] at hh
  simp only at hh
  obtain ⟨p, hp⟩ : ∃ p, R[j]? = some p := ⟨_, List.getElem?_eq_getElem (by have := (List.getElem?_eq_some_iff.1 hx).1; have := hC.len; omega)⟩
  have hh2 : Calls Try.prog 35 #[.pointer (some ⟨c, 0, none⟩), .int .i64 at_] W1 fun e w' => e = .returned (.tuple #[.pointer (some ⟨p, 0, none⟩), .int .i64 (d : Int)]) ∧ ∃ n, w' = W1.drewN n := by
    refine hh.mono ?_
    rintro e w' ⟨⟨p', hp', he⟩, hw⟩
    rw [hp] at hp'
    injection hp' with hp'
    subst hp'
    exact ⟨he, hw⟩
  obtain ⟨c0, c1, _, _, _, _, _, _⟩ := six_cells hC.cell
  obtain ⟨u, uc, hs⟩ := hC.slab j p x hp hx
  obtain ⟨p0, p1, p2, _⟩ := three_cells hs.cell
  obtain ⟨bx, _⟩ := Bu.one_cell hB1
  have HD := Lib.hid (dead_ok W1 c (some ⟨b, 0, none⟩) c0)
  have HH := Lib.hid hh2
  have hsz : (C.size : Int) ≠ 0 := by have := H.ok.sz.1; omega
  have hq : ∀ w : World, (binOp .eql 97 (.pointer (some ⟨p, 0, none⟩)) (.pointer none)).run Try.prog w = .ok (.bool false) w := fun w => run_eql_ptr_nil Try.prog w 97 _ (some ⟨p, 0, none⟩) Try.underlying97
  have e0 : (0 : Int) ≤ (d : Int) := by omega
  have e1 : (0 : Int) ≤ (C.size : Int) := by omega
  have g1 := quo_w64 d C.size hd H.ok.sz.1
  have g2 := rem_w64 d C.size hd H.ok.sz.1
  have g3 : (d : Int) / (C.size : Int) = ((d / C.size : Nat) : Int) := rfl
  obtain ⟨q, hqe⟩ : ∃ q, q = d / C.size := ⟨_, rfl⟩
  rw [← hqe] at g1 g3
  have g4 : (d : Int) % (C.size : Int) = ((d % C.size : Nat) : Int) := rfl
  obtain ⟨r, hre⟩ : ∃ r, r = d % C.size := ⟨_, rfl⟩
  rw [← hre] at g2 g4 hbad
  have t1 : ((r : Int) != 0) = true := by simp; omega
  have t2 : ((r : Int) == 0) = false := by simp; omega
  have t3 : ¬ ((r : Int) = 0) := by omega
  have HB := Lib.hid hb1
  have HW := Lib.hid hW1
  clear hh hh2 hpg hC H c0 hb1 hB1 hW1 hs hp hx hhit hqe hre hbad
  go_enter Try.func11, Try.ntmps11
  go_wp2_with (go_at_call 34; fail)
  rw [← HW.out]
  refine HD.out.mono ?_
  rintro e w' ⟨rfl, rfl⟩
  go_wp2_with (go_at_call 35; refine HH.out.mono ?_; rintro e w' ⟨rfl, dd, rfl⟩)
  go_ret
  exact ⟨rfl, below_drewN HB.out _⟩
end Sl
end Go.Proofs.Ytlknhbcambdccaa
namespace Go.Proofs.Ytlknhbcambdccaa
open Go.RowKit Go.Shelf
namespace Bu
attribute [local go_sem] Oper.semAt_some

def objP (size : Nat) (x : Slb) (i : Nat) : List Nat := ((List.range i).filter fun t => x.us.getD t false).map (addrS size x)
def objK (C : Ca) (k : Nat) : List Nat := (C.sl.take k).flatMap fun x => objP C.size x x.us.length
/-- The allocated objects. -/
def objC (C : Ca) : List Nat := C.sl.flatMap fun x => objP C.size x x.us.length

theorem objP_yes {size i : Nat} {x : Slb} (h : x.us[i]? = some true) : objP size x (i + 1) = objP size x i ++ [addrS size x i] := by
  unfold objP
  rw [List.range_succ, List.filter_append, List.map_append]
  simp [h]
theorem objP_no {size i : Nat} {x : Slb} (h : x.us[i]? = some false) : objP size x (i + 1) = objP size x i := by
  unfold objP
  rw [List.range_succ, List.filter_append, List.map_append]
  simp [h]
theorem objK_succ {C : Ca} {k : Nat} {x : Slb} (h : C.sl[k]? = some x) : objK C (k + 1) = objK C k ++ objP C.size x x.us.length := by
  obtain ⟨hk, he⟩ := List.getElem?_eq_some_iff.1 h
  unfold objK
  rw [List.take_succ_eq_append_getElem hk, List.flatMap_append, he]
  simp
theorem objK_all (C : Ca) : objK C C.sl.length = objC C := by unfold objK objC; rw [List.take_length]
theorem objP_len (size : Nat) (x : Slb) (i : Nat) : (objP size x i).length ≤ i := by
  unfold objP
  rw [List.length_map]
  have := List.length_filter_le (fun t => x.us.getD t false) (List.range i)
  simpa using this
theorem objK_len {C : Ca} (h : ∀ x ∈ C.sl, x.us.length ≤ 128) : ∀ k, k ≤ C.sl.length → (objK C k).length ≤ k * 128 := by
  intro k
  induction k with
  | zero => intro _; simp [objK]
  | succ k ih =>
    intro hk
    obtain ⟨x, hx⟩ : ∃ x, C.sl[k]? = some x := ⟨_, List.getElem?_eq_getElem (by omega)⟩
    have h1 := ih (by omega)
    have h2 := objP_len C.size x x.us.length
    have h3 := h x (List.mem_of_getElem? hx)
    rw [objK_succ hx, List.length_append]
    omega
theorem ok_len {C : Ca} {N : Nat} {L : List Blk} (h1 : CaOk C N L) : C.sl.length ≤ 1024 := by
  have key : ∀ (l : List Slb), l.Pairwise (fun a b => a.pg < b.pg) → ∀ s, (∀ y ∈ l, s ≤ y.pg ∧ y.pg < 1024) → s ≤ 1024 → l.length + s ≤ 1024 := by
    intro l
    induction l with
    | nil => intro _ s _ h; simpa using h
    | cons y l ih =>
      intro hp s hb hs
      rw [List.pairwise_cons] at hp
      have hy := hb y (List.mem_cons_self ..)
      have := ih hp.2 (y.pg + 1) (fun z hz => ⟨hp.1 z hz, (hb z (List.mem_cons_of_mem _ hz)).2⟩) (by omega)
      rw [List.length_cons]; omega
  have := key C.sl h1.asc 0 (fun y hy => ⟨Nat.zero_le _, by
    have h2 := st_le h1.st _ (h1.giv y hy)
    have h3 : y.pg + 2 ^ C.order ≤ 1024 := h2.2
    have := pow_pos2 C.order
    omega⟩) (by omega)
  omega

set_option maxRecDepth 100000 in
set_option maxHeartbeats 4000000 in
theorem objseq (n : Nat) (hn : 2 ≤ n) (b1 c b cap e : Nat) (own : Ow) (C : Ca) (N : Nat) (L : List Blk) (hok : CaOk C N L) (A0 : Option Addr) (R : List Nat) (V : World) (hC0 : Sl.CacheAt V own c b C e A0 cap R) :
    SeqZ Fence.wide n Try.prog 78 #[.pointer (some ⟨b1, 0, none⟩)] (fun a : Nat => #[.int .i64 (a : Int)]) (fun W => b1 < W.heap.size ∧ W.cell? ⟨b1, 0, none⟩ = some (.pointer (some ⟨c, 0, none⟩)))
      (fun W => ∀ z, own z ≠ none → W.heap[z]? = V.heap[z]?) (fun k => k = b1) (fun xs => xs = objC C) (fun _ => True) (fun pre _ => pre.length + 1 ≤ 131072) := by
  intro l J Jx own0 W ⟨hbs, hD⟩ hR hE hf hFJ hFJx hY h0
  have hul : ∀ x ∈ C.sl, x.us.length ≤ 128 := fun x hx => by rw [hok.len x hx]; exact (capa_pos hok).2.1
  have hpg : ∀ x ∈ C.sl, x.pg ≤ 1024 := fun x hx => by
    have h2 : x.pg + 2 ^ C.order ≤ 1024 := (st_le hok.st _ (hok.giv x hx)).2
    have := pow_pos2 C.order
    omega
  have hsl := ok_len hok
  have hsz := hok.sz.2.1
  obtain ⟨m, hm⟩ : ∃ m, m = C.sl.length := ⟨_, rfl⟩
  have hRm : R.length = m := hC0.len.trans hm.symm
  have hCc := (hE own0 [] W h0 c (by rw [hC0.ownC]; simp)).trans hC0.cell
  obtain ⟨_, _, _, _, c4, _, _, _⟩ := Sl.six_cells hCc
  rw [hRm] at c4
  have hKL := objK_len hul
  rw [← hm] at hKL hsl
  have HY := Lib.hid hY
  have HE := Lib.hid hE
  have hR1 := hR b1 rfl
  have HOR := Lib.hid (And.intro hR1 (And.intro hm (And.intro hRm (And.intro hul (And.intro hpg (And.intro hKL (And.intro hFJ hC0)))))))
  have hA : 1 ≤ m → ∃ g, A0 = some ⟨g, 0, none⟩ := fun h => by
    rcases hC0.row.2 with ⟨_, h0⟩ | ⟨g, cp, cur, hv, _⟩
    · omega
    · injection hv with hv; exact ⟨g, hv⟩
  have hcp : m ≤ cap := by
    rcases hC0.row.2 with ⟨hv, h0⟩ | ⟨g, cp, cur, hv, _, _, g1, g2, _⟩
    · omega
    · injection hv with _ _ h3; omega
  have HA := Lib.hid hA
  clear hY hR hE hR1 hok hul hpg hC0 hm hRm hKL hA hFJ hCc
  have hfn : Fence.wide.fn 43 := trivial
  have hdp : Fence.wide.depth.isSome = false := rfl
  have hn1 : 1 ≤ n := by omega
  refine callsIn_of_wp Try.func78 rfl trivial ?_ rfl
  simp only [Try.ntmps78, List.size_toArray, List.length_cons, List.length_nil, Nat.reduceAdd, Nat.reduceSub, Array.replicate_succ, Array.replicate_zero, List.push_toArray, List.append_toArray, List.nil_append, List.cons_append]
  gi_wp2
  gi_loopw [12] (fun i wr => ∃ (k : Nat) (ow : Ow), k ≤ m ∧ i = .int .i64 (k : Int) ∧ J ow (objK C k) wr ∧ Keeps own0 ow W wr) (fun i _ => m - (intOf i).toNat)
  case atStart => exact ⟨0, own0, Nat.zero_le _, rfl, h0, Keeps.refl _ _⟩
  case round =>
    obtain ⟨k, ow, hk, rfl, hJ, hK⟩ := hrel
    obtain ⟨wo, rfl⟩ : ∃ wo : World, wo = wr := ⟨_, rfl⟩
    have e0 : (0 : Int) ≤ (k : Int) := by omega
    by_cases hlt : k < m
    · have e1 : (k : Int) < (m : Int) := by omega
      have hEk := HE.out ow _ wo hJ
      have hC0 := HOR.out.2.2.2.2.2.2.2
      obtain ⟨x, hx⟩ : ∃ x, C.sl[k]? = some x := ⟨_, List.getElem?_eq_getElem (by have := HOR.out.2.1; omega)⟩
      obtain ⟨p, hp⟩ : ∃ p, R[k]? = some p := ⟨_, List.getElem?_eq_getElem (by have := HOR.out.2.2.1; omega)⟩
      obtain ⟨u, uc, hs⟩ := hC0.slab k p x hp hx
      obtain ⟨g, rfl⟩ := HA.out (by omega)
      have r0 : wo.cell? ⟨g, k, none⟩ = some (.pointer (some ⟨p, 0, none⟩)) := (World.cell?_of_block (a := ⟨g, k, none⟩) (hEk g (by rw [hC0.ownG g rfl]; simp))).trans (Sl.row_cell hC0.row (i := k) (v := .pointer (some ⟨p, 0, none⟩)) (by unfold Sl.ptrs; rw [List.getElem?_map, hp]; rfl))
      obtain ⟨_, p1, _, _⟩ := Sl.three_cells ((hEk p (by rw [hs.ownP]; simp)).trans hs.cell)
      have hxl := HOR.out.2.2.2.1 x (List.mem_of_getElem? hx)
      have hxp := HOR.out.2.2.2.2.1 x (List.mem_of_getElem? hx)
      have hkk : IntKind.i64.wrap ((k : Int) + 1) = ((k + 1 : Nat) : Int) := by rw [IntWalk.i64_in _ (by omega)]; rfl
      obtain ⟨q, hq⟩ : ∃ q, q = x.us.length := ⟨_, rfl⟩
      have huc : x.us.length ≤ uc := (Sl.row_caps hs.row).1
      rw [← hq] at p1 hxl huc
      have HJ := Lib.hid (And.intro hJ (And.intro hK (And.intro hx (And.intro hs hq))))
      clear hJ hK hx hp hq hEk hs hC0
      gi_wp2
      gi_loopw [21] (fun i wr => ∃ (t : Nat) (ow2 : Ow), t ≤ q ∧ i = .int .i64 (t : Int) ∧ J ow2 (objK C k ++ objP C.size x t) wr ∧ Keeps own0 ow2 W wr) (fun i _ => q - (intOf i).toNat)
      case atStart => exact ⟨0, ow, Nat.zero_le _, rfl, by simpa [objP] using HJ.out.1, HJ.out.2.1⟩
      case round =>
        obtain ⟨t, ow2, ht, rfl, hJ2, hK2⟩ := hrel
        have e2 : (0 : Int) ≤ (t : Int) := by omega
        by_cases hlt2 : t < q
        · have e3 : (t : Int) < (q : Int) := by omega
          have hc' : wr.cell? ⟨b1, 0, none⟩ = some (.pointer (some ⟨c, 0, none⟩)) := (World.cell?_of_block (a := ⟨b1, 0, none⟩) (hK2.block b1 hbs HOR.out.1)).trans hD
          have hE2 := HE.out ow2 _ wr hJ2
          have hs := HJ.out.2.2.2.1
          obtain ⟨v, hv⟩ : ∃ v, x.us[t]? = some v := ⟨_, List.getElem?_eq_getElem (by have := HJ.out.2.2.2.2; omega)⟩
          have u1 : wr.cell? ⟨u, t, none⟩ = some (.bool v) := (World.cell?_of_block (a := ⟨u, t, none⟩) (hE2 u (by rw [hs.ownU]; simp))).trans (Sl.row_cell hs.row (i := t) (v := .bool v) (by rw [Sl.bcells_get, hv]; rfl))
          have htt : IntKind.i64.wrap ((t : Int) + 1) = ((t + 1 : Nat) : Int) := by rw [IntWalk.i64_in _ (by omega)]; rfl
          cases v with
          | false =>
            have HJ2 := Lib.hid (And.intro hJ2 (And.intro hK2 (objP_no (size := C.size) hv)))
            clear hJ2 hK2 hv hE2 hs
            gi_wp2
            refine ⟨fun f h => (by cases h), ?_⟩
            gi_wp2
            go_roundw
            case rel => exact ⟨t + 1, ow2, by omega, by go_num, by rw [HJ2.out.2.2]; exact HJ2.out.1, HJ2.out.2.1⟩
            case measure => simp [intOf]; omega
          | true =>
            have hadr := Sl.address_ok wr c p C.size x.pg t (Sl.six_cells ((hE2 c (by rw [HOR.out.2.2.2.2.2.2.2.ownC]; simp)).trans HOR.out.2.2.2.2.2.2.2.cell)).2.1 (Sl.three_cells ((hE2 p (by rw [hs.ownP]; simp)).trans hs.cell)).1 hsz hxp (by omega)
            obtain ⟨ad, had⟩ : ∃ ad, ad = 64 * x.pg + t * C.size := ⟨_, rfl⟩
            rw [← had] at hadr
            have HAd := Lib.hid ((callsIn_wide (n := n - 1)).2 hadr)
            have hpl : (objK C k ++ objP C.size x t).length + 1 ≤ 131072 := by
              have h1 := HOR.out.2.2.2.2.2.1 k hk
              have h2 := objP_len C.size x t
              rw [List.length_append]
              omega
            have HJ2 := Lib.hid (And.intro hJ2 (And.intro hK2 (And.intro (objP_yes (size := C.size) hv) (And.intro hpl had))))
            clear hJ2 hK2 hv hE2 hs hadr hpl had
            gi_wp2_with (gi_at_call 43; fail)
            refine HAd.out.mono ?_
            rintro _ w2 ⟨rfl, dd, hw2⟩
            have hJ3 := HOR.out.2.2.2.2.2.2.1 ow2 _ wr w2 HJ2.out.1 (by rw [hw2]; exact Nat.le_refl _) (fun z _ _ => by rw [hw2]; rfl)
            have hf2 : Fresh ow2 w2 := hf.keeps (HJ2.out.2.1.trans (by rw [hw2]; exact ⟨rfl, rfl, rfl, Nat.le_refl _, fun _ _ _ => rfl, fun _ _ => rfl, fun _ h => .inl h⟩))
            obtain ⟨fn, tmps, assign, body, hy, hRd⟩ := HY.out ow2 _ ad w2 hJ3 hf2 HJ2.out.2.2.2.1
            have HR := Lib.hid hRd
            have HW := Lib.hid hw2
            clear hRd hJ3 hf2 hw2
            gi_wp2
            refine HR.out.mono ?_
            rintro e W3 ⟨own3, hK3, (⟨rfl, hJ3⟩ | ⟨rfl, hJ3⟩)⟩
            · have H3 := Lib.hid (And.intro hJ3 hK3)
              clear hJ3 hK3
              gi_wp2
              go_roundw
              case rel =>
                refine ⟨t + 1, own3, by omega, by go_num, ?_, ?_⟩
                · rw [HJ2.out.2.2.1, ← List.append_assoc, show addrS C.size x t = ad from HJ2.out.2.2.2.2.symm]; exact H3.out.1
                · exact (HJ2.out.2.1.trans (by rw [HW.out]; exact ⟨rfl, rfl, rfl, Nat.le_refl _, fun _ _ _ => rfl, fun _ _ => rfl, fun _ h => .inl h⟩)).trans H3.out.2
              case measure => simp [intOf]; omega
            · have H3 := Lib.hid (And.intro hJ3 hK3)
              clear hJ3 hK3
              gi_wp2
              refine bodyPost_ret (results_none rfl _ _ _) rfl ?_
              exact ⟨⟨_, rfl⟩, own3, (HJ2.out.2.1.trans (by rw [HW.out]; exact ⟨rfl, rfl, rfl, Nat.le_refl _, fun _ _ _ => rfl, fun _ _ => rfl, fun _ h => .inl h⟩)).trans H3.out.2, .inr ⟨_, trivial, H3.out.1⟩⟩
        · obtain rfl : t = q := by omega
          have e3 : ¬ ((t : Nat) : Int) < (t : Int) := by omega
          have HJ2 := Lib.hid (And.intro hJ2 hK2)
          clear hJ2 hK2
          gi_wp2
          go_roundw
          case rel => exact ⟨k + 1, ow2, by omega, by go_num, by rw [objK_succ HJ.out.2.2.1, ← HJ.out.2.2.2.2]; exact HJ2.out.1, HJ2.out.2⟩
          case measure => simp [intOf]; omega
    · obtain rfl : k = m := by omega
      have e1 : ¬ ((k : Nat) : Int) < (k : Int) := by omega
      have HJ := Lib.hid (And.intro hJ hK)
      clear hJ hK
      gi_wp2
      go_end0
      refine ⟨⟨_, rfl⟩, ow, HJ.out.2, .inl ?_⟩
      rw [← objK_all, ← HOR.out.2.1]
      exact HJ.out.1
end Bu
end Go.Proofs.Ytlknhbcambdccaa
