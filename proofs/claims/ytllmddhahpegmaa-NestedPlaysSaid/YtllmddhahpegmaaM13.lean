/- Below, and the statements' below. Open arenas that have a byte lie one inside of the other. The reference: Open, times, rooted, Chain. -/
import Derived.Test.YtllmddhahpegmaaM12
import Derived.Maps.OwnIn
import Derived.Test.YtllmddhahpegmaaM11
namespace Go.Proofs.Ytllmddhahpegmaa
open Go.RowKit Go.Shelf
namespace Ne
attribute [local go_sem] Oper.semAt_some

theorem below44_ok (w : World) (t : Nat) (k : Int) :
    Calls Try.prog 44 #[.pointer (some ⟨t, 0, none⟩), .int .i64 k] w fun e w' => e = .returned (.func (.func 55) #[] #[.pointer (some ⟨w.heap.size, 0, none⟩), .pointer (some ⟨w.heap.size + 1, 0, none⟩)]) ∧
      w' = (w.alloc (.cells #[.pointer (some ⟨t, 0, none⟩)] 23)).alloc (.cells #[.int .i64 k] 3) := by
  go_enter Try.func44, Try.ntmps44
  go_wp2
  go_ret
  exact ⟨rfl, rfl⟩

/-- The caller's variable, and its row. -/
def Out (bo : Nat) (own : Ow) (pre : List Nat) (V : World) : Prop :=
  ∃ A c, Boxed V bo 36 (.slice A pre.length c) ∧ V.ownsRow bo 3 1 (.slice A pre.length c) pre.length (nints pre) ∧ own bo ≠ none ∧ ∀ g, (Value.slice A pre.length c).ownBlock = some g → own g ≠ none

theorem out_framed (bo : Nat) : Framed (Out bo) := by
  rintro own pre V V' ⟨A, c, hb, hr, ho, hg⟩ hs hk
  refine ⟨A, c, (hk _ ho hb.lt).trans hb, ⟨hr.1, ?_⟩, ho, hg⟩
  rcases hr.2 with hn | ⟨g, cap, cur, e, hB, hgg, rest⟩
  · exact .inl hn
  · exact .inr ⟨g, cap, cur, e, hB, by rw [hk g (hg g (by rw [e]; rfl)) (lt_of_heap hgg)]; exact hgg, rest⟩

theorem out_step {bo : Nat} {own : Ow} {pre : List Nat} {V w1 : World} {x : Nat} {A : Option Addr} {c : Nat} {ob : Obj} {v' : Value}
    (hb : Boxed V bo 36 (.slice A pre.length c)) (hr : V.ownsRow bo 3 1 (.slice A pre.length c) pre.length (nints pre)) (ho : own bo ≠ none) (hg : ∀ g, (Value.slice A pre.length c).ownBlock = some g → own g ≠ none)
    (hown : w1.ownsRow bo 3 1 v' (pre.length + 1) (nints pre ++ [.int .i64 (x : Int)])) (hgrow : (V.alloc ob).grownBy w1 (Value.slice A pre.length c).ownBlock)
    (hat : v'.ownBlock = (Value.slice A pre.length c).ownBlock ∨ v'.ownBlock = some (V.alloc ob).heap.size) :
    ∃ own', Keeps own own' V (w1.setCell ⟨bo, 0, none⟩ v') ∧ Out bo own' (pre ++ [x]) (w1.setCell ⟨bo, 0, none⟩ v') := by
  have hbl := hb.lt
  obtain ⟨h1, h2, h3, _, h5⟩ := hb.appended (by decide) hr (Nat.le_of_lt hbl) (Nat.le_refl bo) hown hgrow
  obtain ⟨gg, cap, rfl⟩ := ownsRow_succ hown
  have hgs := hgrow.size
  simp at hgs
  refine ⟨fun y => if V.heap.size ≤ y ∧ y = gg then some 0 else own y, ⟨h5.os, h5.tape, h5.output, ?_, fun y hy hn => ?_, fun y hy => ?_, fun y hy => ?_⟩, some ⟨gg, 0, none⟩, cap, by simpa using h2, ?_, ?_, fun g hg' => ?_⟩
  · rw [setCell_size]; omega
  · rw [setCell_far _ _ _ _ (fun e => by rw [e] at hn; exact ho hn), hgrow.block y (by simp; omega) (fun e => hg y e.symm hn)]
    exact Below.heap_alloc _ _ _ hy
  · show (if V.heap.size ≤ y ∧ y = gg then some 0 else own y) = own y
    rw [if_neg (by omega)]
  · by_cases e : V.heap.size ≤ y ∧ y = gg
    · right
      refine ⟨e.1, ?_⟩
      rw [setCell_size, e.2]
      exact (hown.lt gg rfl).2
    · left
      rwa [if_neg e] at hy
  · have : nints (pre ++ [x]) = nints pre ++ [.int .i64 (x : Int)] := by simp [nints]
    rw [this]; simpa using h3
  · show (if V.heap.size ≤ bo ∧ bo = gg then some 0 else own bo) ≠ none
    rw [if_neg (by omega)]; exact ho
  · obtain rfl : gg = g := by simpa [Value.ownBlock] using hg'
    show (if V.heap.size ≤ gg ∧ gg = gg then some 0 else own gg) ≠ none
    by_cases e : V.heap.size ≤ gg
    · rw [if_pos ⟨e, rfl⟩]; simp
    · rw [if_neg (by omega)]
      rcases hat with hat | hat
      · exact hg gg hat.symm
      · simp [Value.ownBlock] at hat; omega

set_option maxRecDepth 100000 in
set_option maxHeartbeats 2000000 in
theorem below_ok (w : World) (own : Ow) (t : Nat) (M : Tr) (k : Int) (h : Tree w own t M) (hfo : Fresh own w) (hgood : Good M) :
    Calls Try.prog 24 #[.pointer (some ⟨t, 0, none⟩), .int .i64 k] w fun e w' => (∃ A c l, e = .returned (.slice A l.length c) ∧ Under M k M.length l ∧ w'.ownsRow w.heap.size 3 1 (.slice A l.length c) l.length (nints l)) ∧ Below w.heap.size w w' := by
  refine (callsIn_wide (n := 8)).1 ?_
  refine callsIn_of_wp_marks Try.func24 rfl trivial ?_ rfl
  simp only [Try.ntmps24, List.size_toArray, List.length_cons, List.length_nil, Nat.reduceAdd, Nat.reduceSub, Array.replicate_succ, Array.replicate_zero, List.push_toArray, List.append_toArray, List.nil_append, List.cons_append]
  refine wpIn_wide.2 ?_
  go_wp2_with (go_at_call 44; refine (below44_ok _ _ _).mono ?_; rintro e w' ⟨rfl, rfl⟩)
  refine (wpIn_wide (n := 8)).1 ?_
  obtain ⟨i0, z0, hi0, hz0, hz1, hz2, hz3⟩ := info_open int_info
  have hm := hgood.len
  have c0 : ((((w.alloc (.cells #[.slice none 0 0] 36)).alloc (.cells #[.pointer (some ⟨t, 0, none⟩)] 23)).alloc (.cells #[.int .i64 k] 3))).heap.size = w.heap.size + 3 := by simp
  have hb0 : Below w.heap.size w (((w.alloc (.cells #[.slice none 0 0] 36)).alloc (.cells #[.pointer (some ⟨t, 0, none⟩)] 23)).alloc (.cells #[.int .i64 k] 3)) := (((Below.refl _ _).alloc (Nat.le_refl _) _).alloc (by simp) _).alloc (by simp; omega) _
  have bO : Boxed (((w.alloc (.cells #[.slice none 0 0] 36)).alloc (.cells #[.pointer (some ⟨t, 0, none⟩)] 23)).alloc (.cells #[.int .i64 k] 3)) w.heap.size 36 (.slice none 0 0) := ((Boxed.new w 36 (.slice none 0 0)).alloc _).alloc _
  have b1 : (((w.alloc (.cells #[.slice none 0 0] 36)).alloc (.cells #[.pointer (some ⟨t, 0, none⟩)] 23)).alloc (.cells #[.int .i64 k] 3)).cell? ⟨w.heap.size + 1, 0, none⟩ = some (.pointer (some ⟨t, 0, none⟩)) := by
    have := ((Boxed.new (w.alloc (.cells #[.slice none 0 0] 36)) 23 (.pointer (some ⟨t, 0, none⟩))).alloc (.cells #[.int .i64 k] 3)).cell
    simpa using this
  have b2 : (((w.alloc (.cells #[.slice none 0 0] 36)).alloc (.cells #[.pointer (some ⟨t, 0, none⟩)] 23)).alloc (.cells #[.int .i64 k] 3)).cell? ⟨w.heap.size + 1 + 1, 0, none⟩ = some (.int .i64 k) := by
    have := (Boxed.new ((w.alloc (.cells #[.slice none 0 0] 36)).alloc (.cells #[.pointer (some ⟨t, 0, none⟩)] 23)) 3 (.int .i64 k)).cell
    simpa using this
  generalize (((w.alloc (.cells #[.slice none 0 0] 36)).alloc (.cells #[.pointer (some ⟨t, 0, none⟩)] 23)).alloc (.cells #[.int .i64 k] 3)) = W0 at *
  have H := Lib.hid (And.intro h (And.intro hfo (And.intro hgood hb0)))
  clear h hfo hgood hb0
  refine rangeY (Ix := fun _ _ _ _ => False) (I := Out w.heap.size) rfl (by omega) (gf := 55) (lb := #[.pointer (some ⟨w.heap.size + 1, 0, none⟩), .pointer (some ⟨w.heap.size + 1 + 1, 0, none⟩)]) rfl trivial (enters_of Try.func55 (by kernel_rfl) rfl)
    (belowseq 7 (by omega) (w.heap.size + 1) (w.heap.size + 1 + 1) t M own k H.out.2.2.1) (fun x => if x = w.heap.size then some 0 else none) ?hf0 ?hD ?hR (fun _ => rfl) (out_framed _) (fun _ _ _ _ _ h _ _ => h) ?h0 ?a1 ?assign ?body ?done ?stop
  case hf0 =>
    intro x hx
    by_cases e : x = w.heap.size
    · omega
    · simp [e] at hx
  case hD =>
    intro V hV
    exact ⟨(H.out.1.below (H.out.2.2.2.trans (hV.mono H.out.2.2.2.size))), by have := hV.size; omega, by have := hV.size; omega, (hV.cell (p := ⟨w.heap.size + 1, 0, none⟩) (show w.heap.size + 1 < W0.heap.size by omega)).trans b1, (hV.cell (p := ⟨w.heap.size + 1 + 1, 0, none⟩) (show w.heap.size + 1 + 1 < W0.heap.size by omega)).trans b2⟩
  case hR =>
    intro x hx
    rcases hx with hx | rfl | rfl
    · have := H.out.2.1 x hx
      exact ⟨by simp; omega, by omega⟩
    · exact ⟨by simp, by omega⟩
    · exact ⟨by simp; omega, by omega⟩
  case h0 => exact ⟨none, 0, bO, World.ownsRow_nil _ _ _ _, by simp, fun g hg => by cases hg⟩
  case assign =>
    intro l x V K hK
    gi_wp2
    exact hK
  case body =>
    rintro l own2 pre x V ⟨A, c, hb, hr, ho, hg⟩ hf2 hlen
    have hbc := hb.cell
    have hbf := hb.frozen
    have hbl := hb.lt
    have HE := Lib.hid (And.intro hb (And.intro ho hg))
    clear hb ho hg
    gi_wp2_with (gi_at_builtin; refine wpListIn_append_own_at _ rfl _ _ 36 rfl w.heap.size 3 i0 z0 1 8 Try.underlying36 hi0 hz0 hz1 hz2 hz3 (by omega) (.slice A pre.length c) pre.length (nints pre) rfl (hr.alloc _) ⟨V.heap.size, 0, none⟩ 1 1 [.int .i64 (x : Int)] rfl rfl (cell_one_new _ _ _) (by simp [Value.oneCell']) (by unfold maxLen; omega) (by omega) (by simp; omega) ?_
                 intro v' w1 hown' hgrow _ hat
                 obtain ⟨own3, hk3, ho3⟩ := out_step HE.out.1 hr HE.out.2.1 HE.out.2.2 hown' hgrow hat
                 obtain ⟨g', cap', rfl⟩ := ownsRow_succ hown'
                 have hc1 : w1.cell? ⟨w.heap.size, 0, none⟩ = some (.slice A pre.length c) := (HE.out.1.appended (by decide) hr (by omega) (Nat.le_refl _) hown' hgrow).1.cell
                 have hf1 : w1.frozen? ⟨w.heap.size, 0, none⟩ = false := (HE.out.1.appended (by decide) hr (by omega) (Nat.le_refl _) hown' hgrow).1.frozen
                 have H3 := Lib.hid (And.intro hk3 ho3)
                 clear hk3 ho3)
    exact ⟨own3, H3.out.1, H3.out.2⟩
  case done =>
    rintro own2 xs V hS ⟨A, c, hb, hr, ho, hg⟩ hK hd hdv
    have hbc := hb.cell
    have HE := Lib.hid (And.intro hS (And.intro hr (And.intro hK hdv)))
    have hbW := Lib.hid H.out.2.2.2
    clear hS hr hK hdv hb ho hg
    go_wp2
    refine ⟨by simp, .inl ⟨_, _, rfl, run_takeDeferred HE.out.2.2.2, ?_⟩⟩
    refine ⟨_, results_tmp rfl _ _ _, ⟨A, c, xs, rfl, HE.out.1, ownsRow_putObj HE.out.2.1 _ HE.out.2.2.2 rfl⟩, ?_⟩
    have hK := HE.out.2.2.1
    have hB := hbW.out
    refine ⟨hK.os.trans hB.os, hK.tape.trans hB.tape, hK.output.trans hB.output, ?_, fun x hx => ?_⟩
    · have := hK.size; have := hB.size; simp; omega
    · have := hB.size
      rw [World.putObj_heap_other (by omega), hK.block x (by omega) (by simp; omega)]
      exact hB.block x hx
  case stop =>
    rintro _ _ _ _ _ h
    exact h.elim
end Ne
end Go.Proofs.Ytllmddhahpegmaa
namespace Go.Proofs.Ytllmddhahpegmaa
namespace Ne

/-- An arena has a byte. -/
def Has (M : Tr) (i : Nat) (p : Int) : Prop := ∃ n, M[i]? = some (some n) ∧ n.a ≤ p ∧ p < n.a + n.s

theorem Chn.unique {M : Tr} {c : Nat} {l : List Nat} (h : Chn M c l) : ∀ {l'}, Chn M c l' → l = l' := by
  induction h with
  | root n h hp =>
    intro l' h'
    cases h' with
    | root _ _ _ => rfl
    | step _ p n' l2 h1 h2 _ =>
      rw [h] at h1
      injection h1 with h1; injection h1 with h1
      subst h1
      omega
  | step c p n l h1 hp _ ih =>
    intro l' h'
    cases h' with
    | root n' h2 hp2 =>
      rw [h1] at h2
      injection h2 with h2; injection h2 with h2
      subst h2
      omega
    | step _ p' n' l2 h2 hp2 hc2 =>
      rw [h1] at h2
      injection h2 with h2; injection h2 with h2
      subst h2
      obtain rfl : p = p' := by omega
      rw [ih hc2]

/-- How deep an arena is. -/
def Dep (M : Tr) (i r : Nat) : Prop := ∃ l, Chn M i l ∧ l.length = r

theorem Dep.unique {M : Tr} {i r r' : Nat} (h : Dep M i r) (h' : Dep M i r') : r = r' := by
  obtain ⟨l, h1, e1⟩ := h
  obtain ⟨l', h2, e2⟩ := h'
  rw [← e1, ← e2, h1.unique h2]

theorem Dep.one {M : Tr} {i : Nat} (h : Dep M i 1) : i = 0 := by
  obtain ⟨l, h, e⟩ := h
  cases h with
  | root _ _ _ => rfl
  | step _ p n l h1 h2 h3 =>
    have := h3.ne
    simp at e
    exact absurd e this

theorem Dep.up {M : Tr} {i r : Nat} (h : Dep M i (r + 2)) : ∃ p n, M[i]? = some (some n) ∧ n.p = ((p : Nat) : Int) ∧ Dep M p (r + 1) := by
  obtain ⟨l, h, e⟩ := h
  cases h with
  | root _ _ _ => simp at e
  | step _ p n l h1 h2 h3 => exact ⟨p, n, h1, h2, l, h3, by simpa using e⟩

theorem Dep.pos {M : Tr} {i r : Nat} (h : Dep M i r) : 0 < r := by
  obtain ⟨l, h, e⟩ := h
  have := List.length_pos_iff.2 h.ne
  omega

theorem Good.dep {M : Tr} (h : Good M) {i : Nat} (hi : Opn M i) : ∃ r, Dep M i r ∧ r ≤ 64 := by
  obtain ⟨l, hl⟩ := h.chn hi
  exact ⟨_, ⟨l, hl, rfl⟩, hl.len h⟩

theorem Dep.anc {M : Tr} {i r : Nat} (h : Dep M i r) {a : Nat} (hA : Anc M i a) : ∃ r', Dep M a r' ∧ r' ≤ r ∧ (r' = r → a = i) := by
  induction hA generalizing r with
  | refl c => exact ⟨r, h, Nat.le_refl _, fun _ => rfl⟩
  | step c p a k h1 hp _ ih =>
    obtain ⟨l, hl, e⟩ := h
    cases hl with
    | root n h2 hp2 =>
      rw [h1] at h2
      injection h2 with h2; injection h2 with h2
      subst h2
      omega
    | step _ p' n' l2 h2 hp2 hc2 =>
      rw [h1] at h2
      injection h2 with h2; injection h2 with h2
      subst h2
      obtain rfl : p = p' := by omega
      obtain ⟨r', d1, d2, _⟩ := ih ⟨l2, hc2, rfl⟩
      simp at e
      exact ⟨r', d1, by omega, fun x => by omega⟩

theorem Has.up {M : Tr} (h : Good M) {i q : Nat} {n : Node} (hi : M[i]? = some (some n)) (hp : n.p = (q : Int)) {p : Int} (hh : Has M i p) : Has M q p := by
  obtain ⟨n', hn', h1, h2⟩ := hh
  rw [hi] at hn'
  injection hn' with hn'; injection hn' with hn'
  subst hn'
  obtain ⟨_, z, hz, x, hx, hxc⟩ := h.parent hi hp
  obtain ⟨k, hk, _, ka, ks⟩ := h.kid hz hx (by omega)
  rw [hxc, Int.toNat_natCast, hi] at hk
  injection hk with hk; injection hk with hk
  subst hk
  obtain ⟨m1, m2, m3⟩ := (h.node _ _ hz).seq.mem x hx
  exact ⟨z, hz, by omega, by omega⟩

theorem Has.anc {M : Tr} (h : Good M) {i a : Nat} (hA : Anc M i a) {p : Int} : Has M i p → Has M a p := by
  induction hA with
  | refl c => exact id
  | step c q a k h1 hp _ ih => exact fun hh => ih (hh.up h h1 hp)

theorem Has.opn {M : Tr} {i : Nat} {p : Int} (h : Has M i p) : Opn M i := by
  obtain ⟨n, hn, _⟩ := h
  exact ⟨n, hn⟩

/-- Items that have a byte in common are one. -/
theorem seq_one {lo hi : Int} {l : List Item} (h : Seq lo hi l) {i j : Nat} {x y : Item} (hx : l[i]? = some x) (hy : l[j]? = some y) {p : Int} (h1 : x.a ≤ p) (h2 : p < x.a + x.s) (h3 : y.a ≤ p) (h4 : p < y.a + y.s) : i = j := by
  induction l generalizing lo i j with
  | nil => simp at hx
  | cons z l ih =>
    obtain ⟨s1, s2, s3, s4⟩ := h
    match i, j with
    | 0, 0 => rfl
    | 0, j + 1 =>
      have e : z = x := by simpa using hx
      have hy' : l[j]? = some y := by simpa using hy
      have := s4.mem y (List.mem_of_getElem? hy')
      subst e
      omega
    | i + 1, 0 =>
      have e : z = y := by simpa using hy
      have hx' : l[i]? = some x := by simpa using hx
      have := s4.mem x (List.mem_of_getElem? hx')
      subst e
      omega
    | i + 1, j + 1 =>
      have := ih (i := i) (j := j) s4 (by simpa using hx) (by simpa using hy)
      rw [this]

theorem Has.sib {M : Tr} (h : Good M) {i j q : Nat} {n m : Node} (hi : M[i]? = some (some n)) (hj : M[j]? = some (some m)) (hn : n.p = (q : Int)) (hm : m.p = (q : Int)) {p : Int} (h1 : Has M i p) (h2 : Has M j p) : i = j := by
  obtain ⟨n', hn', a1, a2⟩ := h1
  rw [hi] at hn'
  injection hn' with hn'; injection hn' with hn'
  subst hn'
  obtain ⟨m', hm', b1, b2⟩ := h2
  rw [hj] at hm'
  injection hm' with hm'; injection hm' with hm'
  subst hm'
  obtain ⟨_, z, hz, x, hx, hxc⟩ := h.parent hi hn
  obtain ⟨_, z', hz', y, hy, hyc⟩ := h.parent hj hm
  rw [hz] at hz'
  injection hz' with hz'; injection hz' with hz'
  subst hz'
  obtain ⟨k, hk, _, ka, ks⟩ := h.kid hz hx (by omega)
  rw [hxc, Int.toNat_natCast, hi] at hk
  injection hk with hk; injection hk with hk
  subst hk
  obtain ⟨k', hk', _, ka', ks'⟩ := h.kid hz hy (by omega)
  rw [hyc, Int.toNat_natCast, hj] at hk'
  injection hk' with hk'; injection hk' with hk'
  subst hk'
  obtain ⟨u, hu⟩ := List.getElem?_of_mem hx
  obtain ⟨v, hv⟩ := List.getElem?_of_mem hy
  have := seq_one (h.node _ _ hz).seq hu hv (p := p) (by omega) (by omega) (by omega) (by omega)
  subst this
  rw [hu] at hv
  injection hv with hv
  subst hv
  omega

theorem root_anc {M : Tr} {j : Nat} {l : List Nat} (h : Chn M j l) : Anc M j 0 := by
  induction h with
  | root _ _ _ => exact .refl 0
  | step c p n l h1 hp _ ih => exact .step c p 0 n h1 hp ih

/-- Of two arenas that have a byte the deeper one is inside of the other. -/
theorem laminar {M : Tr} (h : Good M) {p : Int} : ∀ (r i : Nat), Dep M i r → Has M i p → ∀ (s j : Nat), Dep M j s → r ≤ s → Has M j p → Anc M j i := by
  intro r
  induction r with
  | zero => intro i hi; have := hi.pos; omega
  | succ r ihr =>
    intro i hi hhi s
    cases r with
    | zero =>
      intro j hj _ _
      rw [hi.one]
      obtain ⟨l, hl, _⟩ := hj
      exact root_anc hl
    | succ r =>
      induction s with
      | zero => intro j hj; have := hj.pos; omega
      | succ s ihs =>
        intro j hj hrs hhj
        obtain ⟨qi, n, hn, hnp, hdq⟩ := hi.up
        obtain ⟨s', rfl⟩ : ∃ s', s = s' + 1 := ⟨s - 1, by omega⟩
        obtain ⟨qj, m, hm, hmp, hdqj⟩ := hj.up
        by_cases e : r + 2 ≤ s' + 1
        · exact .step j qj i m hm hmp (ihs qj hdqj e (hhj.up h hm hmp))
        · have e' : s' = r := by omega
          subst e'
          have hA := ihr qi hdq (hhi.up h hn hnp) (s' + 1) qj hdqj (Nat.le_refl _) (hhj.up h hm hmp)
          obtain ⟨r2, d2, _, d4⟩ := hdqj.anc hA
          have : qi = qj := d4 (d2.unique hdq)
          subst this
          rw [Has.sib h hn hm hnp hmp hhi hhj]
          exact .refl _

theorem anc_both {M : Tr} (h : Good M) {i j : Nat} (hi : Opn M i) (h1 : Anc M i j) (h2 : Anc M j i) : i = j := by
  obtain ⟨r, hr, _⟩ := h.dep hi
  obtain ⟨r', d1, d2, d3⟩ := hr.anc h1
  obtain ⟨r2, d4, d5, _⟩ := d1.anc h2
  have := d4.unique hr
  exact (d3 (by omega)).symm

theorem lam {M : Tr} (h : Good M) {p : Int} {i j : Nat} (hi : Has M i p) (hj : Has M j p) : Anc M i j ∨ Anc M j i := by
  obtain ⟨r, hr, _⟩ := h.dep hi.opn
  obtain ⟨s, hs, _⟩ := h.dep hj.opn
  rcases Nat.le_total r s with e | e
  · exact .inr (laminar h r i hr hi s j hs e hj)
  · exact .inl (laminar h s j hs hj r i hr e hi)

/-- A proper inner arena with a byte lies in an item with it. -/
theorem inner_item {M : Tr} (h : Good M) {j j' : Nat} {n : Node} (hj : M[j]? = some (some n)) (hA : Anc M j' j) (hne : j' ≠ j) {p : Int} (hh : Has M j' p) : ∃ y ∈ n.l, 0 ≤ y.c ∧ y.a ≤ p ∧ p < y.a + y.s := by
  induction hA with
  | refl c => exact absurd rfl hne
  | step c q a k h1 hp hA ih =>
    by_cases e : q = a
    · subst e
      obtain ⟨_, z, hz, x, hx, hxc⟩ := h.parent h1 hp
      rw [hj] at hz
      injection hz with hz; injection hz with hz
      subst hz
      obtain ⟨k', hk', _, ka, ks⟩ := h.kid hj hx (by omega)
      rw [hxc, Int.toNat_natCast, h1] at hk'
      injection hk' with hk'; injection hk' with hk'
      subst hk'
      obtain ⟨n', hn', a1, a2⟩ := hh
      rw [h1] at hn'
      injection hn' with hn'; injection hn' with hn'
      subst hn'
      exact ⟨x, hx, by omega, by omega, by omega⟩
    · exact ih hj e (hh.up h h1 hp)

/-- An arena whose bytes (no arena's) have a byte is the innermost one. -/
theorem bytes_inner {M : Tr} (h : Good M) {j : Nat} {n : Node} (hj : M[j]? = some (some n)) {x : Item} (hx : x ∈ n.l) (hc : x.c < 0) {p : Int} (h1 : x.a ≤ p) (h2 : p < x.a + x.s) : Has M j p ∧ ∀ j', Has M j' p → Anc M j j' := by
  obtain ⟨m1, m2, m3⟩ := (h.node _ _ hj).seq.mem x hx
  have hh : Has M j p := ⟨n, hj, by omega, by omega⟩
  refine ⟨hh, fun j' hj' => ?_⟩
  rcases lam h hh hj' with hA | hA
  · exact hA
  · by_cases e : j' = j
    · rw [e]; exact .refl _
    · obtain ⟨y, hy, hy0, hy1, hy2⟩ := inner_item h hj hA e hj'
      obtain ⟨u, hu⟩ := List.getElem?_of_mem hx
      obtain ⟨v, hv⟩ := List.getElem?_of_mem hy
      have := seq_one (h.node _ _ hj).seq hu hv (p := p) h1 h2 hy1 hy2
      subst this
      rw [hu] at hv
      injection hv with hv
      subst hv
      omega
end Ne
end Go.Proofs.Ytllmddhahpegmaa
namespace Go.Proofs.Ytllmddhahpegmaa
open Go.RowKit
namespace Ne

theorem save_length (M : Tr) : (save M).length = M.length := by simp [save]

theorem st_at {K : Nat → Prop} {w : World} {A : Option Addr} {c : Nat} {M : Tr} (h : StK K w A c (save M)) {j : Nat} {o : Option Node} (hj : M[j]? = some o) :
    ∃ g f B cB, A = some ⟨g, f, none⟩ ∧ g < w.heap.size ∧ w.cell? ⟨g, f + j * 5, none⟩ = some (.int .i64 (saveNode o).p) ∧ w.cell? ⟨g, f + j * 5 + 1, none⟩ = some (.int .i64 (saveNode o).a) ∧ w.cell? ⟨g, f + j * 5 + 2, none⟩ = some (.int .i64 (saveNode o).s) ∧
      w.cell? ⟨g, f + j * 5 + 3, none⟩ = some (.slice B (saveNode o).l.length cB) ∧ w.cell? ⟨g, f + j * 5 + 4, none⟩ = some (.bool (saveNode o).cl) ∧ RowK K w B cB (saveNode o).l := by
  obtain ⟨g, f, B, cB, rfl, _, ⟨cur, hcur⟩, p0, p1, p2, p3, p4, hR⟩ := h.2.2 j (saveNode o) (by rw [save, List.getElem?_map, hj]; rfl)
  exact ⟨g, f, B, cB, rfl, lt_of_heap hcur, p0, p1, p2, p3, p4, hR⟩

theorem row_at {K : Nat → Prop} {w : World} {A : Option Addr} {c : Nat} {l : List Item} (h : RowK K w A c l) {j : Nat} {x : Item} (hj : l[j]? = some x) :
    ∃ g f, A = some ⟨g, f, none⟩ ∧ g < w.heap.size ∧ w.cell? ⟨g, f + j * 3, none⟩ = some (.int .i64 x.a) ∧ w.cell? ⟨g, f + j * 3 + 1, none⟩ = some (.int .i64 x.s) ∧ w.cell? ⟨g, f + j * 3 + 2, none⟩ = some (.int .i64 x.c) := by
  obtain ⟨g, f, rfl, _, ⟨cur, hcur⟩, s0, s1, s2⟩ := h.2.2 j x hj
  exact ⟨g, f, rfl, lt_of_heap hcur, s0, s1, s2⟩

theorem st_len {K : Nat → Prop} {w : World} {A : Option Addr} {c : Nat} {M : Tr} (h : StK K w A c (save M)) : M.length ≤ c ∧ c ≤ 9223372036854775807 := by
  obtain ⟨h1, h2, _⟩ := h
  rw [save_length] at h1
  unfold maxLen at h2
  exact ⟨h1, by omega⟩

theorem row_len {K : Nat → Prop} {w : World} {A : Option Addr} {c : Nat} {l : List Item} (h : RowK K w A c l) : l.length ≤ c ∧ c ≤ 9223372036854775807 := by
  obtain ⟨h1, h2, _⟩ := h
  unfold maxLen at h2
  exact ⟨h1, by omega⟩

theorem below_box (w : World) (ob : Obj) : Below w.heap.size w (w.alloc ob) := (Below.refl _ _).alloc (Nat.le_refl _) _

set_option maxHeartbeats 1000000 in
theorem open_yes (K : Nat → Prop) (w : World) (A : Option Addr) (c : Nat) (M : Tr) (i : Int) (n : Node) (h : StK K w A c (save M)) (hf : find M i = some n) :
    Calls Try.prog 52 #[.agg #[.slice A M.length c], .int .i64 i] w fun e w' => e = .returned (.bool true) ∧ Below w.heap.size w w' := by
  obtain ⟨h0, hi⟩ := find_some hf
  obtain ⟨k, rfl⟩ := Int.eq_ofNat_of_zero_le h0
  rw [Int.toNat_natCast] at hi
  have hk := (List.getElem?_eq_some_iff.1 hi).1
  obtain ⟨hc1, hc2⟩ := st_len h
  obtain ⟨g, f, B, cB, rfl, hg, _, _, _, _, p4, _⟩ := st_at h hi
  replace p4 : (w.alloc (.cells #[.slice (some ⟨g, f, none⟩) M.length c] 28)).cell? ⟨g, f + k * 5 + 4, none⟩ = some (.bool false) := ((below_box w _).cell (p := ⟨g, _, none⟩) hg).trans p4
  clear h hf hi
  go_enter Try.func52, Try.ntmps52
  go_wp2
  go_ret
  exact ⟨rfl, below_box _ _⟩

set_option maxHeartbeats 1000000 in
theorem open_no (K : Nat → Prop) (w : World) (A : Option Addr) (c : Nat) (M : Tr) (i : Int) (h : StK K w A c (save M)) (hf : find M i = none) :
    Calls Try.prog 52 #[.agg #[.slice A M.length c], .int .i64 i] w fun e w' => e = .returned (.bool false) ∧ Below w.heap.size w w' := by
  obtain ⟨hc1, hc2⟩ := st_len h
  by_cases h0 : i < 0
  · clear h hf
    go_enter Try.func52, Try.ntmps52
    go_wp2
    go_ret
    exact ⟨rfl, below_box _ _⟩
  · obtain ⟨k, rfl⟩ := Int.eq_ofNat_of_zero_le (show 0 ≤ i by omega)
    by_cases hk : k < M.length
    · have hi : M[k]? = some none := by
        obtain ⟨o, ho⟩ : ∃ o, M[k]? = some o := ⟨_, List.getElem?_eq_getElem hk⟩
        unfold find at hf
        rw [if_neg h0, Int.toNat_natCast, ho] at hf
        rw [ho, show o = none from hf]
      obtain ⟨g, f, B, cB, rfl, hg, _, _, _, _, p4, _⟩ := st_at h hi
      replace p4 : (w.alloc (.cells #[.slice (some ⟨g, f, none⟩) M.length c] 28)).cell? ⟨g, f + k * 5 + 4, none⟩ = some (.bool true) := ((below_box w _).cell (p := ⟨g, _, none⟩) hg).trans p4
      clear h hf hi h0
      go_enter Try.func52, Try.ntmps52
      go_wp2
      go_ret
      exact ⟨rfl, below_box _ _⟩
    · clear h hf h0
      go_enter Try.func52, Try.ntmps52
      go_wp2
      go_ret
      exact ⟨rfl, below_box _ _⟩

/-- How often an arena is an item of another one. -/
def countOf (k : Int) (l : List Item) : Nat := (l.filter fun x => x.c == k).length

theorem countOf_next (k : Int) (l : List Item) (j : Nat) (x : Item) (h : l[j]? = some x) : countOf k (l.take (j + 1)) = countOf k (l.take j) + if x.c == k then 1 else 0 := by
  unfold countOf
  rw [List.take_add_one, h]
  simp [List.filter_append, List.filter_cons]
  split <;> simp

theorem countOf_le (k : Int) (l : List Item) : countOf k l ≤ l.length := List.length_filter_le _ _

set_option maxHeartbeats 1000000 in
theorem times_ok (K : Nat → Prop) (w : World) (A : Option Addr) (c : Nat) (M : Tr) (q : Nat) (n : Node) (k : Int) (h : StK K w A c (save M)) (hq : M[q]? = some (some n)) (hl : n.l.length ≤ 200) :
    Calls Try.prog 53 #[.agg #[.slice A M.length c], .int .i64 q, .int .i64 k] w fun e w' => e = .returned (.int .i64 (countOf k n.l)) ∧ Below w.heap.size w w' := by
  have hk := (List.getElem?_eq_some_iff.1 hq).1
  obtain ⟨hc1, hc2⟩ := st_len h
  obtain ⟨g, f, B, cB, rfl, hg, _, _, _, p3, _, hR⟩ := st_at h hq
  obtain ⟨hr1, hr2⟩ := row_len hR
  replace p3 : (w.alloc (.cells #[.slice (some ⟨g, f, none⟩) M.length c] 28)).cell? ⟨g, f + q * 5 + 3, none⟩ = some (.slice B n.l.length cB) := ((below_box w _).cell (p := ⟨g, _, none⟩) hg).trans p3
  have hr1 : n.l.length ≤ cB := hr1
  have HR := Lib.hid (show RowK K w B cB n.l from hR)
  clear h hq hR
  go_enter Try.func53, Try.ntmps53
  go_wp2
  go_loop [7, 8] (fun s i => ∃ j : Nat, j ≤ n.l.length ∧ i = .int .i64 j ∧ ∃ m : Nat, s = .int .i64 m ∧ m = countOf k (n.l.take j)) (fun _ i => n.l.length - (intOf i).toNat)
  case atStart => exact ⟨0, Nat.zero_le _, rfl, 0, rfl, rfl⟩
  case round =>
    obtain ⟨j, hj, rfl, m, rfl, hm⟩ := hrel
    have hm' : m ≤ 200 := by
      have := countOf_le k (n.l.take j)
      rw [List.length_take] at this
      omega
    have HM := Lib.hid hm
    clear hm
    by_cases hjl : j < n.l.length
    · obtain ⟨x, hx⟩ : ∃ x, n.l[j]? = some x := ⟨_, List.getElem?_eq_getElem hjl⟩
      obtain ⟨g2, f2, rfl, hg2, _, _, s2⟩ := row_at HR.out hx
      replace s2 : (w.alloc (.cells #[.slice (some ⟨g, f, none⟩) M.length c] 28)).cell? ⟨g2, f2 + j * 3 + 2, none⟩ = some (.int .i64 x.c) := ((below_box w _).cell (p := ⟨g2, _, none⟩) hg2).trans s2
      have HN := Lib.hid (countOf_next k n.l j x hx)
      clear hx
      by_cases hc : x.c = k
      · have hb : (x.c == k) = true := by rw [beq_iff_eq]; exact hc
        have HB := Lib.hid hb
        clear hc
        go_wp2
        go_round
        case rel => exact ⟨j + 1, by omega, by go_num, m + 1, by go_num, by rw [HN.out, HB.out, HM.out]; rfl⟩
        case measure => simp [intOf]; omega
      · have hb : (x.c == k) = false := by rw [beq_eq_false_iff_ne]; exact hc
        have HB := Lib.hid hb
        clear hc
        go_wp2
        go_round
        case rel => exact ⟨j + 1, by omega, by go_num, m, rfl, by rw [HN.out, HB.out, HM.out]; rfl⟩
        case measure => simp [intOf]; omega
    · obtain rfl : j = n.l.length := by omega
      go_wp2
      go_ret
      refine ⟨?_, below_box _ _⟩
      have := HM.out
      rw [List.take_length] at this
      rw [← this]; rfl
end Ne
end Go.Proofs.Ytllmddhahpegmaa
