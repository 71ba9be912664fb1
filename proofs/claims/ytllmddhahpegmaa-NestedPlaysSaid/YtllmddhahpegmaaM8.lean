/- How a saved state lies in memory; the walks of Clone and Save. The walk of Save. The plain laws on trees: the root keeps its size. -/
import Derived.Test.YtllmddhahpegmaaM7
import Derived.Deep.AppendLies
import Derived.Lib.SliceRun
import Derived.Test.YtllmddhahpegmaaM4
namespace Go.Proofs.Ytllmddhahpegmaa
open Go.RowKit
namespace Ne

/-- An arena of a state. -/
structure SN where
  p : Int
  a : Int
  s : Int
  l : List Item
  cl : Bool

def saveNode : Option Node → SN
  | none => ⟨-1, 0, 0, [], true⟩
  | some n => ⟨n.p, n.a, n.s, n.l, false⟩
def save (M : Tr) : List SN := M.map saveNode

/-- A slice reads as items; its block is one of those that K names. -/
def RowK (K : Nat → Prop) (w : World) (A : Option Addr) (c : Nat) (l : List Item) : Prop :=
  l.length ≤ c ∧ c ≤ maxLen ∧ ∀ (j : Nat) (x : Item), l[j]? = some x → ∃ g o, A = some ⟨g, o, none⟩ ∧ K g ∧ (∃ cur, w.heap[g]? = some (.cells cur 54 (0, 0))) ∧
    w.cell? ⟨g, o + j * 3, none⟩ = some (.int .i64 x.a) ∧ w.cell? ⟨g, o + j * 3 + 1, none⟩ = some (.int .i64 x.s) ∧ w.cell? ⟨g, o + j * 3 + 2, none⟩ = some (.int .i64 x.c)

/-- A slice reads as the arenas of a state. -/
def StK (K : Nat → Prop) (w : World) (A : Option Addr) (c : Nat) (s : List SN) : Prop :=
  s.length ≤ c ∧ c ≤ maxLen ∧ ∀ (j : Nat) (x : SN), s[j]? = some x → ∃ g o B cB, A = some ⟨g, o, none⟩ ∧ K g ∧ (∃ cur, w.heap[g]? = some (.cells cur 35 (0, 0))) ∧
    w.cell? ⟨g, o + j * 5, none⟩ = some (.int .i64 x.p) ∧ w.cell? ⟨g, o + j * 5 + 1, none⟩ = some (.int .i64 x.a) ∧ w.cell? ⟨g, o + j * 5 + 2, none⟩ = some (.int .i64 x.s) ∧
    w.cell? ⟨g, o + j * 5 + 3, none⟩ = some (.slice B x.l.length cB) ∧ w.cell? ⟨g, o + j * 5 + 4, none⟩ = some (.bool x.cl) ∧ RowK K w B cB x.l

theorem RowK.keep {K K' : Nat → Prop} {w w' : World} {A : Option Addr} {c : Nat} {l : List Item} (h : RowK K w A c l) (hk : ∀ k, K k → k < w.heap.size → w'.heap[k]? = w.heap[k]? ∧ K' k) : RowK K' w' A c l := by
  refine ⟨h.1, h.2.1, fun j x hx => ?_⟩
  obtain ⟨g, o, hA, hg, ⟨cur, hcur⟩, h1, h2, h3⟩ := h.2.2 j x hx
  obtain ⟨e, hg'⟩ := hk g hg (lt_of_heap hcur)
  exact ⟨g, o, hA, hg', ⟨cur, e.trans hcur⟩, (World.cell?_of_block (a := ⟨g, _, none⟩) e).trans h1, (World.cell?_of_block (a := ⟨g, _, none⟩) e).trans h2, (World.cell?_of_block (a := ⟨g, _, none⟩) e).trans h3⟩

theorem StK.keep {K K' : Nat → Prop} {w w' : World} {A : Option Addr} {c : Nat} {s : List SN} (h : StK K w A c s) (hk : ∀ k, K k → k < w.heap.size → w'.heap[k]? = w.heap[k]? ∧ K' k) : StK K' w' A c s := by
  refine ⟨h.1, h.2.1, fun j x hx => ?_⟩
  obtain ⟨g, o, B, cB, hA, hg, ⟨cur, hcur⟩, h1, h2, h3, h4, h5, h6⟩ := h.2.2 j x hx
  obtain ⟨e, hg'⟩ := hk g hg (lt_of_heap hcur)
  exact ⟨g, o, B, cB, hA, hg', ⟨cur, e.trans hcur⟩, (World.cell?_of_block (a := ⟨g, _, none⟩) e).trans h1, (World.cell?_of_block (a := ⟨g, _, none⟩) e).trans h2, (World.cell?_of_block (a := ⟨g, _, none⟩) e).trans h3,
    (World.cell?_of_block (a := ⟨g, _, none⟩) e).trans h4, (World.cell?_of_block (a := ⟨g, _, none⟩) e).trans h5, h6.keep hk⟩

theorem RowK.below {K : Nat → Prop} {w w' : World} {A : Option Addr} {c : Nat} {l : List Item} (h : RowK K w A c l) (hb : Below w.heap.size w w') : RowK K w' A c l :=
  h.keep fun k hk hl => ⟨hb.block k hl, hk⟩
theorem StK.below {K : Nat → Prop} {w w' : World} {A : Option Addr} {c : Nat} {s : List SN} (h : StK K w A c s) (hb : Below w.heap.size w w') : StK K w' A c s :=
  h.keep fun k hk hl => ⟨hb.block k hl, hk⟩

theorem RowK.of_owns {base : Nat} {w : World} {A : Option Addr} {c : Nat} {l : List Item} (h : w.ownsRow base 54 3 (.slice A l.length c) l.length (icells l)) : RowK (fun k => base ≤ k) w A c l := by
  have h0 : w.ownsRow 0 54 3 (.slice A l.length c) l.length (icells l) := ⟨h.1, h.2.imp_right fun ⟨g, cap, cur, a, b, r⟩ => ⟨g, cap, cur, a, Nat.zero_le _, r⟩⟩
  have hR := RowAt.of_owns h0
  refine ⟨hR.1, hR.2.1, fun j x hx => ?_⟩
  obtain ⟨g, o, hA, ⟨cur, hg⟩, r⟩ := hR.2.2 j x hx
  refine ⟨g, o, hA, ?_, ⟨cur, hg⟩, r⟩
  exact (h.lt g (by rw [hA]; rfl)).1

theorem item_cell (l : List Item) : ∀ u ∈ icells l, u.oneCell' = true := by
  intro u hu
  obtain ⟨x, _, hx⟩ := List.mem_flatMap.1 hu
  simp [Item.cells] at hx
  rcases hx with rfl | rfl | rfl <;> rfl

theorem news_of_row {w : World} {g : Nat} {l : List Item} (h : ∀ (j : Nat) (x : Item), l[j]? = some x → w.cell? ⟨g, j * 3, none⟩ = some (.int .i64 x.a) ∧ w.cell? ⟨g, j * 3 + 1, none⟩ = some (.int .i64 x.s) ∧ w.cell? ⟨g, j * 3 + 2, none⟩ = some (.int .i64 x.c)) :
    ∀ j u, (icells l)[j]? = some u → w.cell? ((⟨g, 0, none⟩ : Addr).add j) = some u := by
  intro j u hu
  have hadd : (⟨g, 0, none⟩ : Addr).add j = ⟨g, j, none⟩ := by unfold Addr.add; split <;> simp_all
  rw [hadd]
  have hl : j < (icells l).length := (List.getElem?_eq_some_iff.1 hu).1
  rw [icells_length] at hl
  obtain ⟨x, hx⟩ : ∃ x, l[j / 3]? = some x := ⟨_, List.getElem?_eq_getElem (by omega)⟩
  obtain ⟨h1, h2, h3⟩ := h _ x hx
  obtain ⟨k1, k2, k3⟩ := icells_get l _ x hx
  have : j = j / 3 * 3 ∨ j = j / 3 * 3 + 1 ∨ j = j / 3 * 3 + 2 := by omega
  rcases this with e | e | e
  · rw [e] at hu ⊢; rw [k1] at hu; injection hu with hu; rw [← hu]; exact h1
  · rw [e] at hu ⊢; rw [k2] at hu; injection hu with hu; rw [← hu]; exact h2
  · rw [e] at hu ⊢; rw [k3] at hu; injection hu with hu; rw [← hu]; exact h3

theorem add_block (g j : Nat) : ((⟨g, 0, none⟩ : Addr).add j).block = g := by unfold Addr.add; split <;> rfl

theorem value_of_owns {w : World} {base n : Nat} {v : Value} {xs : List Value} (h : w.ownsRow base 54 3 v n xs) : ∃ A c, v = .slice A n c := by
  rcases h.2 with ⟨rfl, h0⟩ | ⟨g, cap, cur, rfl, _⟩
  · exact ⟨none, 0, by rw [h0]⟩
  · exact ⟨_, _, rfl⟩

set_option maxHeartbeats 400000 in
theorem clone_ok (w : World) (A : Option Addr) (c : Nat) (l : List Item) (hl : l.length ≤ 200) (h : w.ownsRow 0 54 3 (.slice A l.length c) l.length (icells l)) :
    Calls Try.prog 30 #[.slice A l.length c] w fun e w' => (∃ A' c', e = .returned (.slice A' l.length c') ∧ w'.ownsRow w.heap.size 54 3 (.slice A' l.length c') l.length (icells l)) ∧ Below w.heap.size w w' := by
  have he := fun w a n c => Lib.run_eql_slice_nil (P := Try.prog) w 33 54 a n c 0 0 Try.underlying33
  obtain ⟨i0, z0, hi0, hz0, hz1, hz2, hz3⟩ := info_open item_info
  have hone := item_cell l
  have hlen := icells_length l
  rcases rowOpen h with ⟨h1, h2⟩ | ⟨g, cap, cur, h1, hlc, hcm, hg, hcs, hc⟩
  · injection h1 with h1 h3 h4
    subst h1 h2 h4
    go_enter Try.func30, Try.ntmps30
    go_wp2
    go_ret
    exact ⟨⟨none, 0, rfl, World.ownsRow_nil _ _ _ _⟩, Below.refl _ _⟩
  · injection h1 with h1 h3 h4
    subst h1 h4
    have hgl := lt_of_heap hg
    have hnews := news_of_row hc
    have hnews' : ∀ o j u, (icells l)[j]? = some u → (w.alloc o).cell? ((⟨g, 0, none⟩ : Addr).add j) = some u := fun o j u hu => (World.cell?_alloc_lt _ _ _ (by rw [add_block]; exact hgl)).trans (hnews j u hu)
    have HN := Lib.hid hnews'
    have HO := Lib.hid hone
    have HL := Lib.hid hlen
    have hown : ∀ (k : Nat), k = w.heap.size → (w.alloc (.cells #[] 54)).ownsRow w.heap.size 54 3 (.slice (some ⟨k, 0, none⟩) 0 0) 0 [] := fun k hk => by
      subst hk
      exact World.ownsRow_made w #[] 0 (Nat.le_refl _) (by simp [maxLen]) rfl
    have HW := Lib.hid hown
    clear h hc hg hcs hnews hnews' hone hlen hown
    generalize hL : l.length = L at *
    go_enter Try.func30, Try.ntmps30
    go_wp2_with (at_builtin; refine wpList_append_own _ rfl (.tmp 5) (.tmp 6) _ rfl w.heap.size 54 i0 z0 3 24 Try.underlying33 hi0 hz0 hz1 hz2 hz3 (by omega) (.slice (some ⟨w.heap.size, 0, none⟩) 0 0) 0 [] rfl (HW.out _ rfl) ⟨g, 0, none⟩ L c (icells l) rfl HL.out (HN.out _) HO.out (by unfold maxLen; omega) (by omega) (by simp) ?_; intro v' w1 hown1 hgrow1 _)
    have hv : ∃ A c, v' = .slice A L c := by have := value_of_owns hown1; simpa using this
    obtain ⟨A', c', hv⟩ := hv
    rw [hv] at hown1
    go_ret
    refine ⟨⟨A', c', by rw [hv]; rfl, by simpa using hown1⟩, ((Below.refl _ _).alloc (Nat.le_refl _) _).grown hgrow1 (by simp) (fun k hk => ?_)⟩
    simp [Value.ownBlock] at hk
    omega
end Ne
end Go.Proofs.Ytllmddhahpegmaa
namespace Go.Proofs.Ytllmddhahpegmaa
open Go.RowKit
namespace Ne

/-- An arena of a state, and where its items are. -/
structure SZ where
  x : SN
  A : Option Addr
  c : Nat
def SZ.cells (z : SZ) : List Value := [.int .i64 z.x.p, .int .i64 z.x.a, .int .i64 z.x.s, .slice z.A z.x.l.length z.c, .bool z.x.cl]
def szcells (l : List SZ) : List Value := l.flatMap SZ.cells

theorem szcells_length (l : List SZ) : (szcells l).length = l.length * 5 := by
  induction l with
  | nil => rfl
  | cons x l ih => simp only [szcells, List.flatMap_cons, List.length_append] at ih ⊢; simp only [SZ.cells, List.length_cons, List.length_nil]; omega
theorem szcells_get (l : List SZ) (i : Nat) (z : SZ) (h : l[i]? = some z) :
    (szcells l)[i * 5]? = some (.int .i64 z.x.p) ∧ (szcells l)[i * 5 + 1]? = some (.int .i64 z.x.a) ∧ (szcells l)[i * 5 + 2]? = some (.int .i64 z.x.s) ∧ (szcells l)[i * 5 + 3]? = some (.slice z.A z.x.l.length z.c) ∧ (szcells l)[i * 5 + 4]? = some (.bool z.x.cl) := by
  induction l generalizing i with
  | nil => simp at h
  | cons y l ih =>
    have e : szcells (y :: l) = SZ.cells y ++ szcells l := rfl
    have hc : (SZ.cells y).length = 5 := rfl
    cases i with
    | zero =>
      simp at h; subst h
      exact ⟨rfl, rfl, rfl, rfl, rfl⟩
    | succ i =>
      have h' : l[i]? = some z := by simpa using h
      obtain ⟨h0, h1, h2, h3, h4⟩ := ih i h'
      have hk : ∀ m, (szcells (y :: l))[(i + 1) * 5 + m]? = (szcells l)[i * 5 + m]? := fun m => by
        rw [e, List.getElem?_append_right (by omega), show (i + 1) * 5 + m - (SZ.cells y).length = i * 5 + m by omega]
      exact ⟨(hk 0).trans h0, (hk 1).trans h1, (hk 2).trans h2, (hk 3).trans h3, (hk 4).trans h4⟩

theorem StK.of_owns {K : Nat → Prop} {w : World} {base c : Nat} {A : Option Addr} {l : List SZ} (hK : ∀ k, base ≤ k → K k) (h : w.ownsRow base 35 5 (.slice A l.length c) l.length (szcells l)) (hr : ∀ z ∈ l, RowK K w z.A z.c z.x.l) : StK K w A c (l.map (·.x)) := by
  rcases h.2 with ⟨h1, h2⟩ | ⟨g, cap, cur, h1, hb, hg, hlc, hcm, hcs, htake⟩
  · have : l = [] := List.eq_nil_of_length_eq_zero h2
    subst this
    injection h1 with h1 h3 h4
    subst h4
    exact ⟨by simp, by simp [maxLen], fun j x hx => by simp at hx⟩
  · injection h1 with h1 h3 h4
    subst h1 h4
    refine ⟨by simpa using hlc, hcm, fun j x hx => ?_⟩
    rw [List.getElem?_map] at hx
    obtain ⟨z, hz⟩ : ∃ z, l[j]? = some z := by
      cases e : l[j]? with
      | none => rw [e] at hx; cases hx
      | some z => exact ⟨z, rfl⟩
    rw [hz] at hx
    injection hx with hx
    subst hx
    have hj : j < l.length := (List.getElem?_eq_some_iff.1 hz).1
    have hcell : ∀ m u, m < 5 → (szcells l)[j * 5 + m]? = some u → w.cell? ⟨g, 0 + j * 5 + m, none⟩ = some u := by
      intro m u hm hu
      rw [← htake, List.getElem?_take, if_pos (by omega)] at hu
      rw [Nat.zero_add, cell_of_row w g _ cur _ _ hg]
      simpa using hu
    obtain ⟨k0, k1, k2, k3, k4⟩ := szcells_get l j z hz
    exact ⟨g, 0, z.A, z.c, rfl, hK g hb, ⟨cur, hg⟩, hcell 0 _ (by omega) k0, hcell 1 _ (by omega) k1, hcell 2 _ (by omega) k2, hcell 3 _ (by omega) k3, hcell 4 _ (by omega) k4, hr z (List.mem_of_getElem? hz)⟩

theorem node_info : (Try.prog.info? 35).map (fun i => (i.zero.isSome, i.zero.map (fun z => z.cells.size), i.size, i.bytes)) = some (true, some 5, 5, 56) := by kernel_rfl

/-- What has been saved so far. -/
def Saved (B : Nat) (wr : World) (s : List SN) (v : Value) : Prop :=
  ∃ zs : List SZ, zs.map (·.x) = s ∧ wr.ownsRow (B + 2) 35 5 v zs.length (szcells zs) ∧ ∀ z ∈ zs, RowK (fun k => B ≤ k) wr z.A z.c z.x.l

set_option maxRecDepth 100000 in
set_option maxHeartbeats 1000000 in
theorem save_ok (w : World) (own : Nat → Option Nat) (t : Nat) (M : Tr) (h : Tree w own t M) (hgood : Good M) :
    Calls Try.prog 11 #[.pointer (some ⟨t, 0, none⟩)] w fun e w' => (∃ A c, e = .returned (.agg #[.slice A (save M).length c]) ∧ StK (fun k => w.heap.size ≤ k) w' A c (save M)) ∧ Below w.heap.size w w' := by
  obtain ⟨g, cap, cs, h⟩ := h
  have hm := hgood.len
  have hpos := hgood.pos
  have hT := nodesRow h
  have hlen := h.len
  have hmost := h.most
  unfold maxLen at hmost
  have hT : w.cell? ⟨t, 0, none⟩ = some (.slice (some ⟨g, 0, none⟩) M.length cap) := by simp [World.cell?, h.top]
  have htl := lt_of_heap h.top
  have hgl := lt_of_heap h.row
  obtain ⟨i0, z0, hi0, hz0, hz1, hz2, hz3⟩ := info_open node_info
  have HM := fun w2 (hw : w2.cell? ⟨t, 0, none⟩ = some (.slice (some ⟨g, 0, none⟩) M.length cap)) => made_ok w2 t _ _ _ hpos hw
  have HMM := Lib.hid HM
  have HH := Lib.hid (And.intro h hgood)
  have hsl : (save M).length = M.length := by simp [save]
  have HSL := Lib.hid hsl
  clear HM h hgood hsl
  generalize hL : M.length = L at *
  have HL := Lib.hid hL
  clear hL
  go_enter Try.func11, Try.ntmps11
  go_wp2_with (go_at_call 29; refine (HMM.out _ (by rw [World.cell?_alloc_lt _ _ _ (by simp; omega), World.cell?_alloc_lt _ _ _ htl]; exact hT)).mono ?_; rintro e w' ⟨rfl, rfl⟩)
  go_loopw [5, 6, 16] (fun n x i wr => ∃ j : Nat, j ≤ L ∧ i = .int .i64 j ∧ Below w.heap.size w wr ∧ w.heap.size + 1 < wr.heap.size ∧ wr.heap[w.heap.size]? = some (.cells #[.slice none 0 0] 28 (0, 0)) ∧ ∃ v, wr.heap[w.heap.size + 1]? = some (.cells #[v] 28 (0, 0)) ∧ Saved w.heap.size wr ((save M).take j) v) (fun _ _ i _ => L - (intOf i).toNat)
  case atStart =>
    refine ⟨0, Nat.zero_le _, rfl, ((Below.refl _ _).alloc (Nat.le_refl _) _).alloc (by simp) _, by simp, ?_, .slice none 0 0, ?_, [], rfl, World.ownsRow_nil _ _ _ _, fun z hz => by cases hz⟩
    · rw [heapAlloc, if_neg (by simp), heapAlloc, if_pos rfl]
    · rw [heapAlloc, if_pos (by simp)]
  case round =>
    obtain ⟨j, hj, rfl, hB, hz, hr, v, hv, hS⟩ := hrel
    by_cases hlt : j < L
    · obtain ⟨o, ho⟩ : ∃ o, M[j]? = some o := ⟨_, List.getElem?_eq_getElem (by rw [HL.out]; exact hlt)⟩
      have hTr : TreeAt wr own t g cap cs M := HH.out.1.grow fun k hk => hB.block k hk
      obtain ⟨pv, hpv, hn⟩ := hTr.node j o ho
      have r3 : wr.cell? ⟨g, j, none⟩ = some pv := by rw [cell_of_row wr g _ cs _ _ hTr.row, hpv]
      have hsn : (save M)[j]? = some (saveNode o) := by rw [save, List.getElem?_map, ho]; rfl
      cases o with
      | none =>
        have hn : pv = .pointer none := hn
        subst hn
        have H0 := Lib.hid (And.intro hB (And.intro hr (And.intro hv (And.intro hS hsn))))
        clear hB hr hv hS hsn hTr ho hpv
        go_upto_region 11 with fail
        obtain ⟨hB, hr, hv, hS, hsn⟩ := H0.out
        obtain ⟨W5, hW5⟩ : ∃ W5, W5 = wr.alloc (.cells #[.int .i64 (-1), .int .i64 0, .int .i64 0, .slice none 0 0, .bool true] 35) := ⟨_, rfl⟩
        rw [← hW5]
        have hB5 : Below w.heap.size w W5 := by rw [hW5]; exact hB.alloc hB.size _
        have hz5 : w.heap.size + 1 < W5.heap.size := by rw [hW5]; simp; omega
        have hr5 : W5.heap[w.heap.size]? = some (.cells #[.slice none 0 0] 28 (0, 0)) := by rw [hW5, alloc_old _ _ _ (by omega)]; exact hr
        have hv5 : W5.heap[w.heap.size + 1]? = some (.cells #[v] 28 (0, 0)) := by rw [hW5, alloc_old _ _ _ hz]; exact hv
        obtain ⟨X, hX⟩ : ∃ X, X = wr.heap.size := ⟨_, rfl⟩
        rw [← hX]
        obtain ⟨p, hp⟩ : ∃ p : Int, p = -1 := ⟨_, rfl⟩
        obtain ⟨a, ha⟩ : ∃ a : Int, a = 0 := ⟨_, rfl⟩
        obtain ⟨s, hs⟩ : ∃ s : Int, s = 0 := ⟨_, rfl⟩
        obtain ⟨A', hA'⟩ : ∃ A' : Option Addr, A' = none := ⟨_, rfl⟩
        obtain ⟨c', hc'⟩ : ∃ c' : Nat, c' = 0 := ⟨_, rfl⟩
        obtain ⟨ll, hll0⟩ : ∃ ll : Nat, ll = 0 := ⟨_, rfl⟩
        obtain ⟨cl, hcl⟩ : ∃ cl : Bool, cl = true := ⟨_, rfl⟩
        obtain ⟨l, hl⟩ : ∃ l : List Item, l = [] := ⟨_, rfl⟩
        have hll1 : ll = l.length := by rw [hll0, hl]; rfl
        have hx5 : W5.heap[X]? = some (.cells #[.int .i64 p, .int .i64 a, .int .i64 s, .slice A' ll c', .bool cl] 35 (0, 0)) := by rw [hW5, hX, heapAlloc, if_pos rfl, hp, ha, hs, hA', hc', hll0, hcl]
        have hS5 : Saved w.heap.size W5 ((save M).take j) v := by
          obtain ⟨zs, h1, h2, h3⟩ := hS
          exact ⟨zs, h1, by rw [hW5]; exact h2.alloc _, fun z hz => by rw [hW5]; exact (h3 z hz).below ((Below.refl _ _).alloc (Nat.le_refl _) _)⟩
        have hK5 : RowK (fun k => w.heap.size ≤ k) W5 A' c' l := by rw [hA', hc', hl]; exact ⟨Nat.le_refl _, by simp [maxLen], fun i x hx => by simp at hx⟩
        have hsn : (save M)[j]? = some ⟨p, a, s, l, cl⟩ := by rw [hsn, hp, ha, hs, hl, hcl]; rfl
        clear hW5 hX hp ha hs hA' hc' hcl hl hll0 hB hr hv hS H0
        have hll := Lib.hid hll1
        clear hll1
        obtain ⟨zs, hzs, hown, hrows⟩ := hS5
        have hzl : zs.length = j := by have := congrArg List.length hzs; rw [List.length_map, List.length_take, HSL.out] at this; omega
        rw [hzl] at hown
        have hvb : ∀ k, v.ownBlock = some k → w.heap.size + 2 ≤ k ∧ k < W5.heap.size := hown.lt
        have hvne : v.ownBlock ≠ some (w.heap.size + 1) := fun e => by have := (hvb _ e).1; omega
        have hvt : ∀ k, v.ownBlock = some k → ∀ cur, W5.heap[k]? ≠ some (.cells cur 54 (0, 0)) := fun k hk cur hcur => by
          rcases hown.2 with ⟨e, _⟩ | ⟨g', cap', cur', e, _, hg', _⟩
          · rw [e] at hk; cases hk
          · rw [e] at hk
            have : g' = k := by simpa [Value.ownBlock] using hk
            subst this
            rw [hg'] at hcur; simp at hcur
        have y0 : W5.cell? ⟨X, 0, none⟩ = some (.int .i64 p) := by simp [World.cell?, hx5]
        have y1 : W5.cell? ⟨X, 1, none⟩ = some (.int .i64 a) := by simp [World.cell?, hx5]
        have y2 : W5.cell? ⟨X, 2, none⟩ = some (.int .i64 s) := by simp [World.cell?, hx5]
        have y3 : W5.cell? ⟨X, 3, none⟩ = some (.slice A' ll c') := by simp [World.cell?, hx5]
        have y4 : W5.cell? ⟨X, 4, none⟩ = some (.bool cl) := by simp [World.cell?, hx5]
        have y5 : W5.cell? ⟨w.heap.size + 1, 0, none⟩ = some v := by simp [World.cell?, hv5]
        have y6 : W5.frozen? ⟨w.heap.size + 1, 0, none⟩ = false := by simp [World.frozen?, hv5]
        have hXl := lt_of_heap hx5
        have H5 := Lib.hid (And.intro hB5 (And.intro hr5 (And.intro hv5 (And.intro hzs (And.intro hrows (And.intro hK5 (And.intro hsn (And.intro hvb (And.intro hzl (And.intro hvt hx5))))))))))
        clear hB5 hr5 hv5 hzs hrows hK5 hsn hx5 hzl hvt
        go_wp2_with (first |
          (at_builtin; refine wpList_append_lies _ rfl (.tmp 33) (.tmp 35) _ rfl (w.heap.size + 2) 35 i0 z0 5 56 Try.underlying26 hi0 hz0 hz1 hz2 hz3 (by omega) v j (szcells zs) rfl (hown.alloc _) ⟨W5.heap.size, 0, none⟩ 1 1 [.int .i64 p, .int .i64 a, .int .i64 s, .slice A' ll c', .bool cl] rfl rfl (World.news_of_block (heap_alloc_new _ _)) (by simp [Value.oneCell']) (by omega) (by unfold maxLen; omega) (by omega) (by simp; omega) (W5.heap.size + 1) (by simp) ?_
           intro g6 cap6 w6 hown6 hgrow6 hat6 hlt6
           have q1 : w6.cell? ⟨w.heap.size + 1, 0, none⟩ = some v := (hgrow6.cell_far ⟨w.heap.size + 1, 0, none⟩ (by simp; omega) (fun e => hvne e.symm)).trans ((World.cell?_alloc_lt _ _ _ (by simp; omega)).trans y5)
           have q2 : w6.frozen? ⟨w.heap.size + 1, 0, none⟩ = false := (hgrow6.frozen_far ⟨w.heap.size + 1, 0, none⟩ (by simp; omega) (fun e => hvne e.symm)).trans ((World.frozen?_alloc_old _ _ _ (by simp; omega)).trans y6)))
        go_roundw
        case rel =>
          obtain ⟨hB5, hr5, hv5, hzs, hrows, hK5, hsn, hvb, hzl, hvt, hx5⟩ := H5.out
          have hg6 : w.heap.size + 2 ≤ g6 := (hown6.lt g6 rfl).1
          have hk6 : ∀ k, k < W5.heap.size → v.ownBlock ≠ some k → w6.heap[k]? = W5.heap[k]? := fun k hk hn => by
            rw [hgrow6.block k (by simp; omega) (fun e => hn e.symm), alloc_old _ _ _ hk]
          have hk7 : ∀ k, k < W5.heap.size → v.ownBlock ≠ some k → k ≠ w.heap.size + 1 → (w6.setCell ⟨w.heap.size + 1, 0, none⟩ (.slice (some ⟨g6, 0, none⟩) (j + 1) cap6)).heap[k]? = W5.heap[k]? := fun k hk hn h1 => by
            rw [setCell_far _ _ _ _ h1]; exact hk6 k hk hn
          have hs6 : W5.heap.size < w6.heap.size := by have := hgrow6.size; simp at this; omega
          have htk : (save M).take (j + 1) = (save M).take j ++ [⟨p, a, s, l, cl⟩] := by
            obtain ⟨hl', e⟩ := List.getElem?_eq_some_iff.1 hsn
            rw [List.take_succ_eq_append_getElem hl', e]
          refine ⟨j + 1, by omega, by go_num, ?_, by rw [setCell_size]; omega, ?_, _, setCell_at _ _ _ _ _ _ ((hk6 _ (by omega) (fun e => by have := hvb _ e; omega)).trans hv5), zs ++ [⟨⟨p, a, s, l, cl⟩, A', c'⟩], ?_, ?_, ?_⟩
          · refine ⟨hgrow6.os.trans hB5.os, hgrow6.tape.trans hB5.tape, hgrow6.output.trans hB5.output, by rw [setCell_size]; have := hB5.size; omega, fun k hk => ?_⟩
            rw [hk7 k (by omega) (fun e => by have := hvb _ e; omega) (by omega)]
            exact hB5.block k hk
          · rw [hk7 _ (by omega) (fun e => by have := hvb _ e; omega) (by omega)]; exact hr5
          · rw [htk, List.map_append, hzs]; rfl
          · have e1 : (zs ++ [⟨⟨p, a, s, l, cl⟩, A', c'⟩] : List SZ).length = j + 1 := by simp [hzl]
            have e2 : szcells (zs ++ [⟨⟨p, a, s, l, cl⟩, A', c'⟩]) = szcells zs ++ [.int .i64 p, .int .i64 a, .int .i64 s, .slice A' l.length c', .bool cl] := by simp [szcells, SZ.cells]
            rw [e1, e2, ← hll.out]
            show World.ownsRow (w6.setCell _ _) _ _ _ _ _ _
            obtain ⟨r1, r2⟩ := hown6
            refine ⟨r1, ?_⟩
            rcases r2 with r2 | ⟨gg, cc, cur, e, b1, b2, b3⟩
            · exact .inl r2
            · exact .inr ⟨gg, cc, cur, e, b1, by rw [setCell_far _ _ _ _ (show gg ≠ w.heap.size + 1 by omega)]; exact b2, b3⟩
          · have hkeep : ∀ (A : Option Addr) (c : Nat) (l : List Item), RowK (fun k => w.heap.size ≤ k) W5 A c l → RowK (fun k => w.heap.size ≤ k) (w6.setCell ⟨w.heap.size + 1, 0, none⟩ (.slice (some ⟨g6, 0, none⟩) (j + 1) cap6)) A c l := by
              intro A c l hK
              refine ⟨hK.1, hK.2.1, fun i x hx => ?_⟩
              obtain ⟨g, o, hA, hKg, ⟨cur, hcur⟩, k1, k2, k3⟩ := hK.2.2 i x hx
              have e := hk7 g (lt_of_heap hcur) (fun e => hvt g e cur hcur) (fun e => by rw [e, hv5] at hcur; simp at hcur)
              exact ⟨g, o, hA, hKg, ⟨cur, e.trans hcur⟩, (World.cell?_of_block (a := ⟨g, _, none⟩) e).trans k1, (World.cell?_of_block (a := ⟨g, _, none⟩) e).trans k2, (World.cell?_of_block (a := ⟨g, _, none⟩) e).trans k3⟩
            intro z hz
            rcases List.mem_append.1 hz with hz | hz
            · exact hkeep _ _ _ (hrows z hz)
            · rw [List.mem_singleton] at hz
              subst hz
              exact hkeep _ _ _ hK5
        case measure => simp [intOf]; omega
      | some n =>
        obtain ⟨b, iv, rfl, hob, hbh, hil⟩ := hn
        obtain ⟨A2, c2, rfl⟩ := itemsLen hil
        have hlen2 := (HH.out.2.node j n ho).len
        obtain ⟨n0, n1, n2, n3, n4, _⟩ := nodeOpen hbh
        have hbl := lt_of_heap hbh
        have HCl := fun o => Lib.hid (clone_ok (wr.alloc o) A2 c2 n.l hlen2 (hil.1.alloc o))
        have H0 := Lib.hid (And.intro hB (And.intro hr (And.intro hv (And.intro hS hsn))))
        clear hB hr hv hS hsn hTr ho hpv hil hbh hob
        go_wp2_with (go_at_call 30; fail)
        refine (HCl _).out.mono ?_
        rintro e w4 ⟨⟨A', c', rfl, hown4⟩, hb4⟩
        have hx4 : w4.heap[wr.heap.size]? = some (.cells #[.int .i64 n.p, .int .i64 n.a, .int .i64 n.s, .slice A2 n.l.length c2, .bool false] 35 (0, 0)) := by
          rw [hb4.block _ (by simp), heapAlloc, if_pos rfl]
        have z3 : w4.cell? ⟨wr.heap.size, 3, none⟩ = some (.slice A2 n.l.length c2) := by simp [World.cell?, hx4]
        have zf : w4.frozen? ⟨wr.heap.size, 3, none⟩ = false := by simp [World.frozen?, hx4]
        have hwl := lt_of_heap hx4
        have H4 := Lib.hid (And.intro hx4 (And.intro hown4 hb4))
        clear hx4 hown4 hb4 HCl
        go_upto_region 11 with fail
        obtain ⟨hB, hr, hv, hS, hsn⟩ := H0.out
        obtain ⟨hx4, hown4, hb4⟩ := H4.out
        have hold4 : ∀ k, k < wr.heap.size → (w4.setCell ⟨wr.heap.size, 3, none⟩ (.slice A' n.l.length c')).heap[k]? = wr.heap[k]? := fun k hk => by
          rw [setCell_far _ _ _ _ (show k ≠ wr.heap.size by omega), hb4.block k (by simp; omega), alloc_old _ _ _ hk]
        have hsz4 : wr.heap.size < w4.heap.size := hwl
        obtain ⟨W5, hW5⟩ : ∃ W5, W5 = w4.setCell ⟨wr.heap.size, 3, none⟩ (.slice A' n.l.length c') := ⟨_, rfl⟩
        have hx5 : W5.heap[wr.heap.size]? = some (.cells #[.int .i64 n.p, .int .i64 n.a, .int .i64 n.s, .slice A' n.l.length c', .bool false] 35 (0, 0)) := by
          rw [hW5, setCell_at _ _ _ _ _ _ hx4]; rfl
        have hK5 : RowK (fun k => w.heap.size ≤ k) W5 A' c' n.l := by
          have h1 := RowK.of_owns hown4
          have hBs := hB.size
          refine h1.keep fun k hk hl => ⟨?_, by simp at hk; omega⟩
          rw [hW5, setCell_far _ _ _ _ (show k ≠ wr.heap.size by simp at hk; omega)]
        rw [← hW5] at hold4
        rw [← hW5]
        have hW5s : wr.heap.size < W5.heap.size := by rw [hW5, setCell_size]; exact hsz4
        have hBW : Below wr.heap.size wr W5 := ⟨by rw [hW5]; exact hb4.os, by rw [hW5]; exact hb4.tape, by rw [hW5]; exact hb4.output, by omega, hold4⟩
        have hB5 : Below w.heap.size w W5 := hB.trans (hBW.mono hB.size)
        have hz5 : w.heap.size + 1 < W5.heap.size := by omega
        have hr5 : W5.heap[w.heap.size]? = some (.cells #[.slice none 0 0] 28 (0, 0)) := by rw [hold4 _ (by omega)]; exact hr
        have hv5 : W5.heap[w.heap.size + 1]? = some (.cells #[v] 28 (0, 0)) := by rw [hold4 _ hz]; exact hv
        have hS5 : Saved w.heap.size W5 ((save M).take j) v := by
          obtain ⟨zs, h1, h2, h3⟩ := hS
          refine ⟨zs, h1, ?_, fun z hz => (h3 z hz).below hBW⟩
          obtain ⟨r1, r2⟩ := h2
          refine ⟨r1, ?_⟩
          rcases r2 with r2 | ⟨gg, cc, cur, e, b1, b2, b3⟩
          · exact .inl r2
          · exact .inr ⟨gg, cc, cur, e, b1, by rw [hold4 _ (lt_of_heap b2)]; exact b2, b3⟩
        obtain ⟨X, hX⟩ : ∃ X, X = wr.heap.size := ⟨_, rfl⟩
        rw [← hX] at hx5 ⊢
        obtain ⟨p, hp⟩ : ∃ p : Int, p = n.p := ⟨_, rfl⟩
        obtain ⟨a, ha⟩ : ∃ a : Int, a = n.a := ⟨_, rfl⟩
        obtain ⟨s, hs⟩ : ∃ s : Int, s = n.s := ⟨_, rfl⟩
        obtain ⟨ll, hll1⟩ : ∃ ll : Nat, ll = n.l.length := ⟨_, rfl⟩
        obtain ⟨cl, hcl⟩ : ∃ cl : Bool, cl = false := ⟨_, rfl⟩
        obtain ⟨l, hl⟩ : ∃ l : List Item, l = n.l := ⟨_, rfl⟩
        rw [← hp, ← ha, ← hs, ← hll1, ← hcl] at hx5
        rw [← hl] at hK5 hll1
        have hsn : (save M)[j]? = some ⟨p, a, s, l, cl⟩ := by rw [hsn, hp, ha, hs, hl, hcl]; rfl
        have hll := Lib.hid hll1
        clear hll1 hW5 hX hp ha hs hcl hl hB hr hv hS H0 H4 hx4 hown4 hb4 hold4 hsz4 hW5s hBW z3 zf hwl n0 n1 n2 n3 n4 hbl hlen2 r3
        obtain ⟨zs, hzs, hown, hrows⟩ := hS5
        have hzl : zs.length = j := by have := congrArg List.length hzs; rw [List.length_map, List.length_take, HSL.out] at this; omega
        rw [hzl] at hown
        have hvb : ∀ k, v.ownBlock = some k → w.heap.size + 2 ≤ k ∧ k < W5.heap.size := hown.lt
        have hvne : v.ownBlock ≠ some (w.heap.size + 1) := fun e => by have := (hvb _ e).1; omega
        have hvt : ∀ k, v.ownBlock = some k → ∀ cur, W5.heap[k]? ≠ some (.cells cur 54 (0, 0)) := fun k hk cur hcur => by
          rcases hown.2 with ⟨e, _⟩ | ⟨g', cap', cur', e, _, hg', _⟩
          · rw [e] at hk; cases hk
          · rw [e] at hk
            have : g' = k := by simpa [Value.ownBlock] using hk
            subst this
            rw [hg'] at hcur; simp at hcur
        have y0 : W5.cell? ⟨X, 0, none⟩ = some (.int .i64 p) := by simp [World.cell?, hx5]
        have y1 : W5.cell? ⟨X, 1, none⟩ = some (.int .i64 a) := by simp [World.cell?, hx5]
        have y2 : W5.cell? ⟨X, 2, none⟩ = some (.int .i64 s) := by simp [World.cell?, hx5]
        have y3 : W5.cell? ⟨X, 3, none⟩ = some (.slice A' ll c') := by simp [World.cell?, hx5]
        have y4 : W5.cell? ⟨X, 4, none⟩ = some (.bool cl) := by simp [World.cell?, hx5]
        have y5 : W5.cell? ⟨w.heap.size + 1, 0, none⟩ = some v := by simp [World.cell?, hv5]
        have y6 : W5.frozen? ⟨w.heap.size + 1, 0, none⟩ = false := by simp [World.frozen?, hv5]
        have hXl := lt_of_heap hx5
        have H5 := Lib.hid (And.intro hB5 (And.intro hr5 (And.intro hv5 (And.intro hzs (And.intro hrows (And.intro hK5 (And.intro hsn (And.intro hvb (And.intro hzl (And.intro hvt hx5))))))))))
        clear hB5 hr5 hv5 hzs hrows hK5 hsn hx5 hzl hvt
        go_wp2_with (first |
          (at_builtin; refine wpList_append_lies _ rfl (.tmp 33) (.tmp 35) _ rfl (w.heap.size + 2) 35 i0 z0 5 56 Try.underlying26 hi0 hz0 hz1 hz2 hz3 (by omega) v j (szcells zs) rfl (hown.alloc _) ⟨W5.heap.size, 0, none⟩ 1 1 [.int .i64 p, .int .i64 a, .int .i64 s, .slice A' ll c', .bool cl] rfl rfl (World.news_of_block (heap_alloc_new _ _)) (by simp [Value.oneCell']) (by omega) (by unfold maxLen; omega) (by omega) (by simp; omega) (W5.heap.size + 1) (by simp) ?_
           intro g6 cap6 w6 hown6 hgrow6 hat6 hlt6
           have q1 : w6.cell? ⟨w.heap.size + 1, 0, none⟩ = some v := (hgrow6.cell_far ⟨w.heap.size + 1, 0, none⟩ (by simp; omega) (fun e => hvne e.symm)).trans ((World.cell?_alloc_lt _ _ _ (by simp; omega)).trans y5)
           have q2 : w6.frozen? ⟨w.heap.size + 1, 0, none⟩ = false := (hgrow6.frozen_far ⟨w.heap.size + 1, 0, none⟩ (by simp; omega) (fun e => hvne e.symm)).trans ((World.frozen?_alloc_old _ _ _ (by simp; omega)).trans y6)))
        go_roundw
        case rel =>
          obtain ⟨hB5, hr5, hv5, hzs, hrows, hK5, hsn, hvb, hzl, hvt, hx5⟩ := H5.out
          have hg6 : w.heap.size + 2 ≤ g6 := (hown6.lt g6 rfl).1
          have hk6 : ∀ k, k < W5.heap.size → v.ownBlock ≠ some k → w6.heap[k]? = W5.heap[k]? := fun k hk hn => by
            rw [hgrow6.block k (by simp; omega) (fun e => hn e.symm), alloc_old _ _ _ hk]
          have hk7 : ∀ k, k < W5.heap.size → v.ownBlock ≠ some k → k ≠ w.heap.size + 1 → (w6.setCell ⟨w.heap.size + 1, 0, none⟩ (.slice (some ⟨g6, 0, none⟩) (j + 1) cap6)).heap[k]? = W5.heap[k]? := fun k hk hn h1 => by
            rw [setCell_far _ _ _ _ h1]; exact hk6 k hk hn
          have hs6 : W5.heap.size < w6.heap.size := by have := hgrow6.size; simp at this; omega
          have htk : (save M).take (j + 1) = (save M).take j ++ [⟨p, a, s, l, cl⟩] := by
            obtain ⟨hl', e⟩ := List.getElem?_eq_some_iff.1 hsn
            rw [List.take_succ_eq_append_getElem hl', e]
          refine ⟨j + 1, by omega, by go_num, ?_, by rw [setCell_size]; omega, ?_, _, setCell_at _ _ _ _ _ _ ((hk6 _ (by omega) (fun e => by have := hvb _ e; omega)).trans hv5), zs ++ [⟨⟨p, a, s, l, cl⟩, A', c'⟩], ?_, ?_, ?_⟩
          · refine ⟨hgrow6.os.trans hB5.os, hgrow6.tape.trans hB5.tape, hgrow6.output.trans hB5.output, by rw [setCell_size]; have := hB5.size; omega, fun k hk => ?_⟩
            rw [hk7 k (by omega) (fun e => by have := hvb _ e; omega) (by omega)]
            exact hB5.block k hk
          · rw [hk7 _ (by omega) (fun e => by have := hvb _ e; omega) (by omega)]; exact hr5
          · rw [htk, List.map_append, hzs]; rfl
          · have e1 : (zs ++ [⟨⟨p, a, s, l, cl⟩, A', c'⟩] : List SZ).length = j + 1 := by simp [hzl]
            have e2 : szcells (zs ++ [⟨⟨p, a, s, l, cl⟩, A', c'⟩]) = szcells zs ++ [.int .i64 p, .int .i64 a, .int .i64 s, .slice A' l.length c', .bool cl] := by simp [szcells, SZ.cells]
            rw [e1, e2, ← hll.out]
            show World.ownsRow (w6.setCell _ _) _ _ _ _ _ _
            obtain ⟨r1, r2⟩ := hown6
            refine ⟨r1, ?_⟩
            rcases r2 with r2 | ⟨gg, cc, cur, e, b1, b2, b3⟩
            · exact .inl r2
            · exact .inr ⟨gg, cc, cur, e, b1, by rw [setCell_far _ _ _ _ (show gg ≠ w.heap.size + 1 by omega)]; exact b2, b3⟩
          · have hkeep : ∀ (A : Option Addr) (c : Nat) (l : List Item), RowK (fun k => w.heap.size ≤ k) W5 A c l → RowK (fun k => w.heap.size ≤ k) (w6.setCell ⟨w.heap.size + 1, 0, none⟩ (.slice (some ⟨g6, 0, none⟩) (j + 1) cap6)) A c l := by
              intro A c l hK
              refine ⟨hK.1, hK.2.1, fun i x hx => ?_⟩
              obtain ⟨g, o, hA, hKg, ⟨cur, hcur⟩, k1, k2, k3⟩ := hK.2.2 i x hx
              have e := hk7 g (lt_of_heap hcur) (fun e => hvt g e cur hcur) (fun e => by rw [e, hv5] at hcur; simp at hcur)
              exact ⟨g, o, hA, hKg, ⟨cur, e.trans hcur⟩, (World.cell?_of_block (a := ⟨g, _, none⟩) e).trans k1, (World.cell?_of_block (a := ⟨g, _, none⟩) e).trans k2, (World.cell?_of_block (a := ⟨g, _, none⟩) e).trans k3⟩
            intro z hz
            rcases List.mem_append.1 hz with hz | hz
            · exact hkeep _ _ _ (hrows z hz)
            · rw [List.mem_singleton] at hz
              subst hz
              exact hkeep _ _ _ hK5
        case measure => simp [intOf]; omega

    · obtain rfl : j = L := by omega
      have hvr : wr.cell? ⟨w.heap.size + 1, 0, none⟩ = some v := by simp [World.cell?, hv]
      have hrr : wr.cell? ⟨w.heap.size, 0, none⟩ = some (.slice none 0 0) := by simp [World.cell?, hr]
      have hrf : wr.frozen? ⟨w.heap.size, 0, none⟩ = false := by simp [World.frozen?, hr]
      obtain ⟨zs, hzs, hown, hrows⟩ := hS
      have hts : (save M).take j = save M := by rw [← HSL.out, List.take_length]
      rw [hts] at hzs
      have hzl : zs.length = j := by have := congrArg List.length hzs; rw [List.length_map, HSL.out] at this; exact this
      have hvv : ∃ A c, v = .slice A j c := by
        rcases hown.2 with ⟨rfl, h0⟩ | ⟨g', cap', cur, rfl, _⟩
        · exact ⟨none, 0, by rw [← hzl, h0]⟩
        · exact ⟨_, _, by rw [← hzl]⟩
      obtain ⟨A, c, rfl⟩ := hvv
      have HF := Lib.hid (And.intro hB (And.intro hzs (And.intro hown (And.intro hrows (And.intro hzl hr)))))
      clear hB hzs hown hrows hzl hr hv hts
      go_wp2
      have hcr : (wr.setCell ⟨w.heap.size, 0, none⟩ (.slice A j c)).cell? ⟨w.heap.size, 0, none⟩ = some (.slice A j c) := by
        have := setCell_at wr w.heap.size 0 _ _ (.slice A j c) HF.out.2.2.2.2.2
        simp [World.cell?, this]
      refine bodyPost_ret (v := .agg #[.slice A j c]) (by simp [results, Try.results11, go_sem, hcr]) rfl ⟨⟨A, c, by rw [HSL.out], ?_⟩, ?_⟩
      · obtain ⟨hB, hzs, hown, hrows, hzl, hr⟩ := HF.out
        have hg : ∀ (k : Nat) (cur : Array Value) (T : Nat), wr.heap[k]? = some (Obj.cells cur T (0, 0)) → T ≠ 28 → (wr.setCell ⟨w.heap.size, 0, none⟩ (.slice A j c)).heap[k]? = wr.heap[k]? := fun k cur T hk hT =>
          setCell_far _ _ _ _ (fun e => by rw [e, hr] at hk; simp at hk; exact hT hk.2.symm)
        rw [← hzs]
        refine StK.of_owns (base := w.heap.size + 2) (fun k hk => by omega) ?_ fun z hz => ?_
        · rw [hzl] at hown ⊢
          obtain ⟨r1, r2⟩ := hown
          refine ⟨r1, ?_⟩
          rcases r2 with r2 | ⟨gg, cc, cur, e, b1, b2, b3⟩
          · exact .inl r2
          · exact .inr ⟨gg, cc, cur, e, b1, by rw [hg _ _ _ b2 (by omega)]; exact b2, b3⟩
        · have hK := hrows z hz
          refine ⟨hK.1, hK.2.1, fun i x hx => ?_⟩
          obtain ⟨g, o, hA, hKg, ⟨cur, hcur⟩, k1, k2, k3⟩ := hK.2.2 i x hx
          have e := hg g _ _ hcur (by omega)
          exact ⟨g, o, hA, hKg, ⟨cur, e.trans hcur⟩, (World.cell?_of_block (a := ⟨g, _, none⟩) e).trans k1, (World.cell?_of_block (a := ⟨g, _, none⟩) e).trans k2, (World.cell?_of_block (a := ⟨g, _, none⟩) e).trans k3⟩
      · exact HF.out.1.setCell (Nat.le_refl _) _
end Ne
end Go.Proofs.Ytllmddhahpegmaa
namespace Go.Proofs.Ytllmddhahpegmaa
namespace Ne

def RootS (M : Tr) (z : Int) : Prop := ∃ r, M[0]? = some (some r) ∧ r.s = z

theorem RootS.set {M : Tr} {z : Int} (h : RootS M z) {i : Nat} {n : Node} {l : List Item} (hi : M[i]? = some (some n)) : RootS (M.set i (some { n with l := l })) z := by
  obtain ⟨r, hr, hs⟩ := h
  have hl := (List.getElem?_eq_some_iff.1 hi).1
  by_cases e : i = 0
  · subst e
    rw [hi] at hr
    injection hr with hr
    injection hr with hr
    subst hr
    exact ⟨_, List.getElem?_set_self hl, hs⟩
  · exact ⟨r, by rw [List.getElem?_set_ne e]; exact hr, hs⟩

theorem RootS.addItem {M : Tr} {z : Int} (h : RootS M z) (i : Nat) (x : Item) : RootS (addItem M i x) z := by
  unfold Ne.addItem
  split
  · next hi => exact h.set hi
  · exact h

theorem RootS.alloc {M : Tr} {z : Int} (h : RootS M z) (i sz al : Int) : RootS (alloc M i sz al).1 z := by
  unfold Ne.alloc
  split
  · exact h.addItem _ _
  · exact h

theorem RootS.begin_ {M : Tr} {z : Int} (h : RootS M z) (i sz al : Int) : RootS (begin_ M i sz al).1 z := by
  unfold Ne.begin_
  split
  · split
    · exact h
    · have h0 : hole M ≠ 0 := fun e => by
        obtain ⟨r, hr, _⟩ := h
        rw [← e] at hr
        exact hole_at hr
      have h1 : RootS (room M (hole M)) z := by
        unfold room
        split
        · exact h
        · obtain ⟨r, hr, hs⟩ := h
          exact ⟨r, by rw [List.getElem?_append_left (List.getElem?_eq_some_iff.1 hr).1]; exact hr, hs⟩
      obtain ⟨r, hr, hs⟩ := h1.addItem i.toNat ⟨(give M i sz al).1, sz, hole M⟩
      exact ⟨r, by rw [List.getElem?_set_ne h0]; exact hr, hs⟩
  · exact h

theorem RootS.rewind {M : Tr} {z : Int} (h : RootS M z) (hg : Good M) {F : Nat} (hF : Big M F) (i m : Int) : RootS (rewindTo M F i m).1 z := by
  obtain ⟨d, D, hr, hD⟩ := hF
  unfold rewindTo
  cases hf : find M i with
  | none => exact h
  | some n =>
    obtain ⟨h0, hi⟩ := find_some hf
    dsimp only
    split
    · exact h
    · have hsub := List.drop_sublist m.toNat n.l
      obtain ⟨_, _, s3⟩ := shut_good hg hr hi hsub (F := F) (by omega)
      have hgi := not_gone hg hr hi hsub
      have hg0 := root_stays hg hi hsub
      obtain ⟨r, hr0, hs⟩ := h
      have h1 : RootS (trim (shut F M (n.l.drop m.toNat))) z := ⟨r, trim_open.2 ((s3 0 hg0).trans hr0), hs⟩
      exact h1.set (trim_open.2 ((s3 _ hgi).trans hi))

theorem RootS.stop {M : Tr} {z : Int} (h : RootS M z) (hg : Good M) {F : Nat} (hF : Big M F) (i : Int) : RootS (stopAt M F i).1 z := by
  obtain ⟨d, D, hr, hD⟩ := hF
  unfold stopAt
  cases hf : find M i with
  | none => exact h
  | some n =>
    obtain ⟨h0, hi⟩ := find_some hf
    dsimp only
    split
    · exact h
    · next hi0 =>
      obtain ⟨hp, q, x, hq, hx, hxc, _⟩ := stop_finds hg hi (by omega)
      rw [show ((i.toNat : Nat) : Int) = i by omega] at hx hxc
      rw [hq]
      dsimp only
      rw [hx]
      dsimp only
      have hsub : [x].Sublist q.l := List.singleton_sublist.2 (List.mem_of_getElem? hx)
      obtain ⟨_, _, s3⟩ := shut_good hg hr hq hsub (F := F) (by omega)
      have hgi := not_gone hg hr hq hsub
      have hg0 := root_stays hg hq hsub
      obtain ⟨r, hr0, hs⟩ := h
      have h1 : RootS (trim (shut F M [x])) z := ⟨r, trim_open.2 ((s3 0 hg0).trans hr0), hs⟩
      exact h1.set (trim_open.2 ((s3 _ hgi).trans hq))
end Ne
end Go.Proofs.Ytllmddhahpegmaa
