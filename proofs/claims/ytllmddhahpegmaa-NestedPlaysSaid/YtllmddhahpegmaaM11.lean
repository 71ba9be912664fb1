/- The chain of an arena: itself and all around it. The walk of Chain. A range over a function, where the caller says which blocks are his own: the iterator may loop over another iterator, and call yield within. -/
import Derived.Test.YtllmddhahpegmaaM10
import Derived.Test.YtllmddhahpegmaaM0
import Derived.RangeFuncNested
import Derived.RangeFuncBound
import Derived.RangeFuncCalls
import Derived.RangeFuncLeaves
import Derived.Shelf.Abstract
import Derived.Shelf.RegionOpen
import Derived.WalkKit
import Derived.OwnWalkIn
import Derived.TacticsInMore
import Derived.LoopNIn
import Derived.LoopIn
namespace Go.Proofs.Ytllmddhahpegmaa
namespace Ne

inductive Chn (M : Tr) : Nat → List Nat → Prop where
  | root (n : Node) : M[0]? = some (some n) → n.p = -1 → Chn M 0 [0]
  | step (c p : Nat) (n : Node) (l : List Nat) : M[c]? = some (some n) → n.p = (p : Int) → Chn M p l → Chn M c (c :: l)

theorem Chn.opn {M : Tr} {c : Nat} {l : List Nat} (h : Chn M c l) : Opn M c := by
  cases h with
  | root n h _ => exact ⟨_, h⟩
  | step _ _ _ _ h1 _ _ => exact ⟨_, h1⟩

theorem Chn.ne {M : Tr} {c : Nat} {l : List Nat} (h : Chn M c l) : l ≠ [] := by
  cases h <;> simp

theorem Chn.mem {M : Tr} {c : Nat} {l : List Nat} (h : Chn M c l) : ∀ a, a ∈ l ↔ Anc M c a := by
  induction h with
  | root n h hp =>
    intro a
    constructor
    · intro ha
      rw [List.mem_singleton] at ha
      subst ha
      exact .refl 0
    · intro hA
      rcases hA.inv with e | ⟨p, k, hk, hkp, _⟩
      · exact List.mem_singleton.2 e.symm
      · rw [h] at hk
        injection hk with hk; injection hk with hk
        subst hk
        omega
  | step c p n l h1 hp _ ih =>
    intro a
    constructor
    · intro ha
      rcases List.mem_cons.1 ha with e | e
      · rw [e]; exact .refl c
      · exact .step c p a n h1 hp ((ih a).1 e)
    · intro hA
      rcases hA.inv with e | ⟨p', k, hk, hkp, hA'⟩
      · rw [e]; exact List.mem_cons_self
      · rw [h1] at hk
        injection hk with hk; injection hk with hk
        subst hk
        obtain rfl : p = p' := by omega
        exact List.mem_cons_of_mem _ ((ih a).2 hA')

theorem chn_ex {M : Tr} (h : Good M) {d : Nat → Nat} {D : Nat} (hr : Ranked M d D) : ∀ (m c : Nat), d c ≤ m → Opn M c → ∃ l, Chn M c l := by
  intro m
  induction m with
  | zero =>
    rintro c hd ⟨n, hn⟩
    by_cases e : c = 0
    · subst e
      exact ⟨_, .root n hn ((h.node 0 n hn).root rfl)⟩
    · obtain ⟨h0, _⟩ := (h.node c n hn).par e
      have := h.parent_rank hr hn (p := n.p.toNat) (by omega)
      omega
  | succ m ih =>
    rintro c hd ⟨n, hn⟩
    by_cases e : c = 0
    · subst e
      exact ⟨_, .root n hn ((h.node 0 n hn).root rfl)⟩
    · obtain ⟨h0, q, hq, _⟩ := (h.node c n hn).par e
      have := h.parent_rank hr hn (p := n.p.toNat) (by omega)
      obtain ⟨l, hl⟩ := ih n.p.toNat (by omega) ⟨q, hq⟩
      exact ⟨_, .step c n.p.toNat n l hn (by omega) hl⟩

theorem Good.chn {M : Tr} (h : Good M) {c : Nat} (hc : Opn M c) : ∃ l, Chn M c l := by
  obtain ⟨d, D, hr⟩ := h.ranked
  exact chn_ex h hr (d c) c (Nat.le_refl _) hc

theorem Chn.ranks {M : Tr} (h : Good M) {d : Nat → Nat} {D : Nat} (hr : Ranked M d D) {c : Nat} {l : List Nat} (hc : Chn M c l) : l.Pairwise (fun a b => d b < d a) ∧ ∀ a ∈ l, d a ≤ d c := by
  induction hc with
  | root n _ _ => simp
  | step c p n l h1 hp _ ih =>
    have hrk := h.parent_rank hr h1 hp
    refine ⟨List.pairwise_cons.2 ⟨fun a ha => ?_, ih.1⟩, fun a ha => ?_⟩
    · have := ih.2 a ha; omega
    · rcases List.mem_cons.1 ha with e | e
      · rw [e]; exact Nat.le_refl _
      · have := ih.2 a e; omega

theorem pigeon : ∀ (n : Nat) (l : List Nat), l.Pairwise (fun a b => a ≠ b) → (∀ a ∈ l, a < n) → l.length ≤ n := by
  intro n
  induction n with
  | zero =>
    intro l _ h
    cases l with
    | nil => simp
    | cons a l => exact absurd (h a List.mem_cons_self) (by omega)
  | succ n ih =>
    intro l hp h
    have h1 := ih (l.filter (fun a => a ≠ n)) (hp.filter _) (fun a ha => by
      have := List.mem_filter.1 ha
      have h2 := h a this.1
      have h3 : a ≠ n := by simpa using this.2
      omega)
    have h2 : ∀ l : List Nat, l.Pairwise (fun a b => a ≠ b) → l.length ≤ (l.filter (fun a => a ≠ n)).length + 1 := by
      intro l
      induction l with
      | nil => simp
      | cons a l ih2 =>
        intro hp
        obtain ⟨p1, p2⟩ := List.pairwise_cons.1 hp
        by_cases e : a = n
        · subst e
          have : l.filter (fun x => x ≠ a) = l := by
            rw [List.filter_eq_self]
            intro x hx
            have := p1 x hx
            simp
            exact fun e => this e.symm
          rw [List.filter_cons_of_neg (by simp), this]; simp
        · have := ih2 p2
          simp [e]
          simpa using this
    have := h2 l hp
    omega

theorem Chn.len {M : Tr} (h : Good M) {c : Nat} {l : List Nat} (hc : Chn M c l) : l.length ≤ 64 := by
  obtain ⟨d, D, hr⟩ := h.ranked
  obtain ⟨h1, _⟩ := hc.ranks h hr
  refine pigeon 64 l (h1.imp fun hab e => by subst e; omega) fun a ha => ?_
  have hA := (hc.mem a).1 ha
  have hlen := h.len
  have key : ∀ x y, Anc M x y → Opn M x → Opn M y := by
    intro x y hA
    induction hA with
    | refl c => exact id
    | step c p a k h1 hp _ ih => exact fun _ => ih (by obtain ⟨_, q, hq, _⟩ := h.parent h1 hp; exact ⟨q, hq⟩)
  obtain ⟨q, hq⟩ := key _ _ hA hc.opn
  have := (List.getElem?_eq_some_iff.1 hq).1
  omega

theorem anc_opn {M : Tr} (h : Good M) {c a : Nat} (hA : Anc M c a) : Opn M c → Opn M a := by
  induction hA with
  | refl c => exact id
  | step c p a k h1 hp _ ih => exact fun _ => ih (by obtain ⟨_, q, hq, _⟩ := h.parent h1 hp; exact ⟨q, hq⟩)

/-- The arenas of a tree that have another one around them, ascending, up to a number. -/
def Under (M : Tr) (k : Int) (m : Nat) (l : List Nat) : Prop := l.Pairwise (fun a b => a < b) ∧ ∀ i, i ∈ l ↔ i < m ∧ Opn M i ∧ 0 ≤ k ∧ Anc M i k.toNat

theorem Under.nil (M : Tr) (k : Int) : Under M k 0 [] := ⟨.nil, fun i => by simp⟩
theorem Under.yes {M : Tr} {k : Int} {m : Nat} {l : List Nat} (h : Under M k m l) (ho : Opn M m) (hk : 0 ≤ k) (hA : Anc M m k.toNat) : Under M k (m + 1) (l ++ [m]) := by
  refine ⟨List.pairwise_append.2 ⟨h.1, List.pairwise_singleton _ _, fun a ha b hb => ?_⟩, fun i => ?_⟩
  · rw [List.mem_singleton] at hb; subst hb; exact ((h.2 a).1 ha).1
  · rw [List.mem_append, List.mem_singleton, h.2]
    constructor
    · rintro (⟨h1, h2⟩ | rfl)
      · exact ⟨by omega, h2⟩
      · exact ⟨by omega, ho, hk, hA⟩
    · rintro ⟨h1, h2⟩
      by_cases e : i = m
      · exact .inr e
      · exact .inl ⟨by omega, h2⟩
theorem Under.no {M : Tr} {k : Int} {m : Nat} {l : List Nat} (h : Under M k m l) (hn : ¬ (Opn M m ∧ 0 ≤ k ∧ Anc M m k.toNat)) : Under M k (m + 1) l := by
  refine ⟨h.1, fun i => ?_⟩
  rw [h.2]
  constructor
  · rintro ⟨h1, h2⟩; exact ⟨by omega, h2⟩
  · rintro ⟨h1, h2⟩
    by_cases e : i = m
    · subst e; exact absurd h2 hn
    · exact ⟨by omega, h2⟩
theorem Under.len {M : Tr} {k : Int} {m : Nat} {l : List Nat} (h : Under M k m l) : l.length ≤ m :=
  pigeon m l (h.1.imp fun hab e => by omega) fun a ha => ((h.2 a).1 ha).1
end Ne
end Go.Proofs.Ytllmddhahpegmaa
namespace Go.Proofs.Ytllmddhahpegmaa
open Go.RowKit
namespace Ne

def lenOf : Value → Nat
  | .slice _ n _ => n
  | _ => 0

def nints (l : List Nat) : List Value := l.map fun a : Nat => Value.int .i64 (a : Int)
theorem nints_length (l : List Nat) : (nints l).length = l.length := by simp [nints]

/-- What Chain returns. -/
def ChainOf (M : Tr) (i : Int) (B : Nat) (e : Ending) (w' : World) : Prop :=
  (find M i = none ∧ e = .returned (.tuple #[.slice none 0 0, .int .i64 4])) ∨
  ∃ A c l, 0 ≤ i ∧ Chn M i.toNat l ∧ e = .returned (.tuple #[.slice A l.length c, .int .i64 0]) ∧ w'.ownsRow B 3 1 (.slice A l.length c) l.length (nints l)

set_option maxRecDepth 100000 in
set_option maxHeartbeats 1000000 in
theorem chain_ok (w : World) (own : Nat → Option Nat) (t : Nat) (M : Tr) (i : Int) (h : Tree w own t M) (hgood : Good M) :
    Calls Try.prog 27 #[.pointer (some ⟨t, 0, none⟩), .int .i64 i] w fun e w' => ChainOf M i w.heap.size e w' ∧ Below w.heap.size w w' := by
  obtain ⟨g, cap, cs, h⟩ := h
  have hF := find_tree w own t g cap cs M i h ⟨hgood.pos, hgood.len⟩
  have hm := hgood.len
  have hlen := h.len
  have hmost := h.most
  unfold maxLen at hmost
  have c0 : w.cell? ⟨t, 0, none⟩ = some (.slice (some ⟨g, 0, none⟩) M.length cap) := by simp [World.cell?, h.top]
  have htl := lt_of_heap h.top
  have hgl := lt_of_heap h.row
  have hC : ∀ (c : Nat) (n : Node), M[c]? = some (some n) → ∃ b, b < w.heap.size ∧ w.cell? ⟨g, c, none⟩ = some (.pointer (some ⟨b, 0, none⟩)) ∧ w.cell? ⟨b, 0, none⟩ = some (.int .i64 n.p) := by
    intro c n hc
    obtain ⟨v, hv, hn⟩ := h.node _ _ hc
    obtain ⟨b, iv, rfl, _, hb, _⟩ := hn
    exact ⟨b, lt_of_heap hb, by rw [cell_of_row w g _ cs _ _ h.row, hv], by simp [World.cell?, hb, NodeCells]⟩
  have HC := Lib.hid hC
  have HF := Lib.hid hF
  have HG := Lib.hid hgood
  clear hC hF h hgood
  cases hf : find M i with
  | none =>
    have HN := Lib.hid hf
    clear hf
    go_enter Try.func27, Try.ntmps27
    go_wp2_with (go_at_call 37; fail)
    refine HF.out.mono ?_
    rintro e w1 ⟨(⟨_, rfl⟩ | ⟨n, b, iv, hf, _⟩), rfl⟩
    · go_wp2
      go_ret2
      exact ⟨.inl ⟨HN.out, rfl⟩, Below.refl _ _⟩
    · rw [HN.out] at hf; cases hf
  | some n0 =>
    obtain ⟨h0, hi⟩ := find_some hf
    obtain ⟨k, rfl⟩ := Int.eq_ofNat_of_zero_le h0
    rw [Int.toNat_natCast] at hi
    obtain ⟨L, hL⟩ := HG.out.chn ⟨n0, hi⟩
    have hL64 := hL.len HG.out
    have HL := Lib.hid hL
    have HN := Lib.hid hf
    obtain ⟨i0, z0, hi0, hz0, hz1, hz2, hz3⟩ := info_open int_info
    clear hf hi hL h0
    go_enter Try.func27, Try.ntmps27
    go_wp2_with (go_at_call 37; fail)
    refine HF.out.mono ?_
    rintro e w1 ⟨(⟨hf, rfl⟩ | ⟨n, b, iv, _, _, _, _, _, _, _, rfl⟩), rfl⟩
    · rw [HN.out] at hf; cases hf
    clear HF
    go_wp2_with fail
    go_loopw [1, 8] (fun nd out wr => ∃ (l1 l2 : List Nat) (A : Option Addr) (c : Nat), L = l1 ++ l2 ∧ ((l2 = [] ∧ nd = .int .i64 (-1)) ∨ ∃ q : Nat, nd = .int .i64 q ∧ Chn M q l2) ∧ out = .slice A l1.length c ∧ wr.ownsRow w.heap.size 3 1 out l1.length (nints l1) ∧ Below w.heap.size w wr) (fun _ out _ => L.length + 1 - lenOf out)
    case atStart => exact ⟨[], L, none, 0, rfl, .inr ⟨k, rfl, HL.out⟩, rfl, World.ownsRow_nil _ _ _ _, Below.refl _ _⟩
    case round =>
      obtain ⟨l1, l2, A, c, hl, hnd, rfl, hrow, hb⟩ := hrel
      rcases hnd with ⟨rfl, rfl⟩ | ⟨q, rfl, hq⟩
      · have HE := Lib.hid (And.intro hl (And.intro hrow hb))
        clear hl hrow hb
        go_wp2
        go_ret2
        have hl : L = l1 := by simpa using HE.out.1
        refine ⟨.inr ⟨A, c, L, by omega, by simpa using HL.out, ?_, ?_⟩, HE.out.2.2⟩
        · rw [hl]; rfl
        · rw [hl]; exact HE.out.2.1
      · have hl1 : l1.length < 64 := by
          have := hq.ne
          have h2 : 0 < l2.length := List.length_pos_iff.2 this
          rw [hl, List.length_append] at hL64
          omega
        have hLl : L.length = l1.length + l2.length := by rw [hl, List.length_append]
        obtain ⟨n, hn⟩ := hq.opn
        obtain ⟨b, hbl, r2, r3⟩ := HC.out q n hn
        have hql := (List.getElem?_eq_some_iff.1 hn).1
        have hbs := hb.size
        have HE := Lib.hid (And.intro hl (And.intro hrow (And.intro hb hq)))
        have HQ := Lib.hid hn
        have HLl := Lib.hid hLl
        clear hl hb hq hn hLl
        go_wp2_with (first |
          (at_builtin; refine wpList_append_lies _ rfl (.tmp 30) (.tmp 32) _ rfl w.heap.size 3 i0 z0 1 8 Try.underlying36 hi0 hz0 hz1 hz2 hz3 (by omega) (.slice A l1.length c) l1.length (nints l1) rfl (hrow.alloc _) ⟨wr.heap.size, 0, none⟩ 1 1 [.int .i64 (q : Int)] rfl rfl (World.news_of_block (heap_alloc_new _ _)) (by simp [Value.oneCell']) (by omega) (by unfold maxLen; omega) (by omega) (by simp; omega) (wr.heap.size + 1) (by simp) ?_
           intro gg capg wg hown1 hgrow1 hat1 hlt1
           have hbg : Below w.heap.size w wg := (HE.out.2.2.1.alloc hbs _).grown hgrow1 (by simp; omega) (fun k hk => (HE.out.2.1.lt k hk).1)
           have s1 := (hbg.cell (p := ⟨t, _, none⟩) htl).trans c0
           have s2 := (hbg.cell (p := ⟨g, _, none⟩) hgl).trans r2
           have s3 := (hbg.cell (p := ⟨b, _, none⟩) hbl).trans r3
           have HB := Lib.hid hbg
           clear hbg))
        go_roundw
        case rel =>
          have hq := HE.out.2.2.2
          have hown : wg.ownsRow w.heap.size 3 1 (.slice (some ⟨gg, 0, none⟩) (l1.length + 1) capg) (l1.length + 1) (nints (l1 ++ [q])) := by
            have : nints (l1 ++ [q]) = nints l1 ++ [.int .i64 (q : Int)] := by simp [nints]
            rw [this]; exact hown1
          cases hq with
          | root n' hn' hp =>
            have : n = n' := by have := HQ.out; rw [hn'] at this; injection this with this; injection this with this; exact this.symm
            subst this
            refine ⟨l1 ++ [0], [], some ⟨gg, 0, none⟩, capg, by simpa using HE.out.1, .inl ⟨rfl, by rw [hp]⟩, by simp, by simpa using hown, HB.out⟩
          | step _ p n' l' hn' hp hl' =>
            have : n = n' := by have := HQ.out; rw [hn'] at this; injection this with this; injection this with this; exact this.symm
            subst this
            refine ⟨l1 ++ [q], l', some ⟨gg, 0, none⟩, capg, by simpa using HE.out.1, .inr ⟨p, by rw [hp], hl'⟩, by simp, by simpa using hown, HB.out⟩
        case measure =>
          have := HLl.out
          simp [lenOf]; omega
end Ne
end Go.Proofs.Ytllmddhahpegmaa
namespace Go.Proofs.Ytllmddhahpegmaa
open Go.RowKit Go.Shelf
namespace Ne

abbrev Ow := Nat → Option Nat

/-- What is said of a world hangs on the blocks that one owns alone. -/
def Framed {β : Type} (I : Ow → β → World → Prop) : Prop :=
  ∀ own s W W', I own s W → W.heap.size ≤ W'.heap.size → (∀ k, own k ≠ none → k < W.heap.size → W'.heap[k]? = W.heap[k]?) → I own s W'

variable {F : Fence} {n : Nat} {P : Program}

/-- An iterator's contract: it reads what D says, in the blocks of R; whatever the caller owns it leaves as it is; all else that lay stays as it lay. -/
def SeqY {α : Type} (F : Fence) (n : Nat) (P : Program) (g : Nat) (lb : Array Value) (encs : α → Array Value) (D : World → Prop) (R : Nat → Prop) (S Sp : List α → Prop) (N : Nat) : Prop :=
  ∀ (l : Nat) (J Jx : Ow → List α → World → Prop) (own0 : Ow) (W : World), D W → (∀ k, R k → own0 k = none) → Fresh own0 W → Framed J → Framed Jx →
    (∀ own pre x W1, J own pre W1 → Fresh own W1 → pre.length < N → YieldAt F (n - 1) P l (encs x) W1 fun e W' =>
      ∃ own', Keeps own own' W1 W' ∧ ((e = .returned (.bool true) ∧ J own' (pre ++ [x]) W') ∨ (e = .returned (.bool false) ∧ Jx own' (pre ++ [x]) W'))) →
    J own0 [] W →
    CallsIn F n P g (#[.func (.yield l) #[] #[]] ++ lb) W fun e W' => (∃ v, e = .returned v) ∧ ∃ own', Keeps own0 own' W W' ∧ ((∃ xs, S xs ∧ J own' xs W') ∨ (∃ pre, Sp pre ∧ Jx own' pre W'))

/-- How the body of a round may be left. -/
def postY {α : Type} (I : Ow → List α → World → Prop) (Ix : Code → Ow → List α → World → Prop) (own : Ow) (xs : List α) (W : World) : Exit → Act → World → Prop
  | .normal, _, W' => ∃ own', Keeps own own' W W' ∧ I own' xs W'
  | .ret, _, W' => ∃ own', Keeps own own' W W' ∧ Ix .ret own' xs W'
  | .exit id, _, W' => ∃ own', Keeps own own' W W' ∧ Ix (.exit id) own' xs W'
  | .goto t, _, W' => ∃ own', Keeps own own' W W' ∧ Ix (.goto t) own' xs W'
  | .panic _, _, _ => False
  | .outgrown, _, _ => False

/-- With two blocks more. -/
def cov (d r : Nat) (own : Ow) : Ow := fun k => if k = d ∨ k = r then some 0 else own k

theorem cov_ne {d r k : Nat} {own : Ow} (h : own k ≠ none) : cov d r own k ≠ none := by
  unfold cov; split <;> simp_all
theorem cov_none {d r k : Nat} {own : Ow} (h : cov d r own k = none) : k ≠ d ∧ k ≠ r ∧ own k = none := by
  unfold cov at h
  split at h
  · cases h
  · next e => exact ⟨fun x => e (.inl x), fun x => e (.inr x), h⟩
theorem cov_of {d r k : Nat} {own : Ow} (h1 : k ≠ d) (h2 : k ≠ r) : cov d r own k = own k := by
  unfold cov; rw [if_neg (by rintro (e | e) <;> contradiction)]

/-- A round, with the record's turns before and behind it. -/
theorem keeps_round {d r : Nat} {own own' : Ow} {W1 W2 W3 : World} {o1 o2 : Obj} (h : Keeps own own' (W1.putObj r o1) W2) (e : W3 = W2.putObj r o2) : Keeps (cov d r own) (cov d r own') W1 W3 := by
  subst e
  have hs : (W1.putObj r o1).heap.size = W1.heap.size := by simp
  refine ⟨h.os, h.tape, h.output, by have := h.size; simp at this ⊢; omega, fun k hk hn => ?_, fun k hk => ?_, fun k hk => ?_⟩
  · obtain ⟨h1, h2, h3⟩ := cov_none hn
    rw [World.putObj_heap_other h2, h.block k (by omega) h3, World.putObj_heap_other h2]
  · by_cases e : k = d ∨ k = r
    · simp [cov, e]
    · rw [cov_of (fun x => e (.inl x)) (fun x => e (.inr x)), cov_of (fun x => e (.inl x)) (fun x => e (.inr x))]
      exact h.same k (by omega)
  · by_cases e : k = d ∨ k = r
    · left; simp [cov, e]
    · rw [cov_of (fun x => e (.inl x)) (fun x => e (.inr x))] at hk ⊢
      rcases h.new k hk with h1 | h1
      · exact .inl h1
      · exact .inr ⟨by omega, by simp; exact h1.2⟩

theorem rangeY {α : Type} {g : Operand} {ps : Array Tmp} {assign body : Code} {Q : Exit → Act → World → Prop} {a : Act} {w : World}
    (hro : F.round = none) (h1 : 1 ≤ n) {gf : Nat} {lb : Array Value} (hg : a.eval g = .func (.func gf) #[] lb) (hFg : F.fn gf) (eg : ∀ args w, (callFunc gf args).run P w = .ok (.enter gf args) w)
    {encs : α → Array Value} {D : World → Prop} {R : Nat → Prop} {S Sp : List α → Prop} {N : Nat} (hseq : SeqY F (n - 1) P gf lb encs D R S Sp N)
    (own0 : Ow) (hf0 : Fresh own0 w) (hD : ∀ W, Below w.heap.size w W → D W) (hR : ∀ k, R k → own0 k = none ∧ k < w.heap.size) (hps : ∀ x, (encs x).size = ps.size)
    (I : Ow → List α → World → Prop) (Ix : Code → Ow → List α → World → Prop) (hI : Framed I) (hIx : ∀ c, Framed (Ix c)) (h0 : I own0 [] w) (a₁ : α → Act)
    (hassign : ∀ (l : Nat) (x : α) (W : World) (K : Act → World → Prop), K (a₁ x) W →
      assign.wpIn (F.inRound l) (n - 1 - 1) P (Exit.then K (fun _ _ _ => False)) { tmps := (ps.zip (encs x)).foldl (fun t (p, v) => t.setIfInBounds p v) a.tmps, defers := [] } W)
    (hbody : ∀ (l : Nat) (own : Ow) (pre : List α) (x : α) (W : World), I own pre W → Fresh own W → pre.length < N → body.wpIn (F.inRound l) (n - 1 - 1) P (postY I Ix own (pre ++ [x]) W) (a₁ x) W)
    (hdone : ∀ (own : Ow) (xs : List α) (W : World), S xs → I own xs W → Keeps own0 own w W → own w.heap.size = none → W.heap[w.heap.size]? = some (.deferred (some [])) → Q .normal { a with defers := { target := .collected w.heap.size, args := #[] } :: a.defers } W)
    (hstop : ∀ (own : Ow) (c : Code) (pre : List α) (W : World), Sp pre → Ix c own pre W → Keeps own0 own w W → own w.heap.size = none → W.heap[w.heap.size]? = some (.deferred (some [])) → c.wpIn F n P Q { a with defers := { target := .collected w.heap.size, args := #[] } :: a.defers } W) :
    (Code.rangeFunc g ps assign body).wpIn F n P Q a w := by
  refine wpIn_rangeFunc ?_
  intro fn hfn
  rw [hro]
  obtain ⟨rec, hrec⟩ : ∃ rec : LoopState → Option Code → Loop, rec = fun st pe => { state := st, pending := pe, fn, tmps := a.tmps, params := ps, assign, body, defers := w.heap.size } := ⟨_, rfl⟩
  obtain ⟨W1, hW1⟩ : ∃ W1, (w.alloc (.deferred (some []))).alloc (.loop (rec .ready none)) = W1 := ⟨_, rfl⟩
  have hL1 : W1.heap[w.heap.size + 1]? = some (.loop (rec .ready none)) := by
    rw [← hW1]; have := World.alloc_heap_new (w.alloc (.deferred (some []))) (.loop (rec .ready none)); rwa [World.size_alloc] at this
  have hK1 : W1.heap[w.heap.size]? = some (.deferred (some [])) := by
    rw [← hW1]; exact (Below.heap_alloc _ _ _ (by simp)).trans (World.alloc_heap_new w _)
  have hb1 : Below w.heap.size w W1 := by
    rw [← hW1]; exact ((Below.refl _ w).alloc (Nat.le_refl _) _).alloc (by simp) _
  have hs1 : W1.heap.size = w.heap.size + 2 := by rw [← hW1]; simp
  have hfr : ∀ k, w.heap.size ≤ k → own0 k = none := fun k hk => by
    cases e : own0 k with
    | none => rfl
    | some v => exact absurd (hf0 k (by rw [e]; simp)) (by omega)
  have hI1 : I own0 [] W1 := hI own0 [] w W1 h0 (by omega) fun k _ hk => hb1.block k hk
  refine ⟨w.heap.size + 1, [{ target := .collected w.heap.size, args := #[] }], W1, { target := .fn (.func gf) lb, args := #[.func (.yield (w.heap.size + 1)) #[] #[]] }, W1, gf,
    #[.func (.yield (w.heap.size + 1)) #[] #[]] ++ lb, W1, ?_, ?_, ?_, ?_, fun _ => h1, ?_⟩
  · rw [← hW1, hrec]; exact run_enterLoop_outer _ _ _ _ _
  · simp only [resolve, hg]
    simp [go_sem]
  · intro f' hf'; simp [Target.leads] at hf'; subst hf'; exact hFg
  · simp [invoke, go_sem, eg]
  · -- what the iterator is told of the caller
    have hfc : Fresh (cov w.heap.size (w.heap.size + 1) own0) W1 := fun k hk => by
      by_cases e : k = w.heap.size ∨ k = w.heap.size + 1
      · omega
      · rw [cov_of (fun x => e (.inl x)) (fun x => e (.inr x))] at hk
        have := hf0 k hk; omega
    refine (hseq (w.heap.size + 1)
      (fun own2 pre W => ∃ own, I own pre W ∧ Fresh own W ∧ own2 = cov w.heap.size (w.heap.size + 1) own ∧ own w.heap.size = none ∧ own (w.heap.size + 1) = none ∧ W.heap[w.heap.size + 1]? = some (.loop (rec .ready none)) ∧ W.heap[w.heap.size]? = some (.deferred (some [])))
      (fun own2 pre W => ∃ own c, Ix c own pre W ∧ Fresh own W ∧ own2 = cov w.heap.size (w.heap.size + 1) own ∧ own w.heap.size = none ∧ own (w.heap.size + 1) = none ∧ W.heap[w.heap.size + 1]? = some (.loop (rec .done (some c))) ∧ W.heap[w.heap.size]? = some (.deferred (some [])))
      (cov w.heap.size (w.heap.size + 1) own0) W1 (hD W1 hb1)
      (fun k hk => by obtain ⟨e1, e2⟩ := hR k hk; rw [cov_of (by omega) (by omega)]; exact e1) hfc ?_ ?_ ?_ ⟨own0, hI1, fun k hk => by have := hf0 k hk; omega, rfl, hfr _ (Nat.le_refl _), hfr _ (by omega), hL1, hK1⟩).mono ?_
    · rintro own2 pre W W' ⟨own, hi, hfo, rfl, hd, hr, hl, hk⟩ hsz hb
      have hlr := lt_of_heap hl
      have hld := lt_of_heap hk
      exact ⟨own, hI own pre W W' hi hsz (fun k hk1 hk2 => hb k (cov_ne hk1) hk2), fun k hk1 => Nat.lt_of_lt_of_le (hfo k hk1) hsz, rfl, hd, hr, (hb _ (by simp [cov]) hlr).trans hl, (hb _ (by simp [cov]) hld).trans hk⟩
    · rintro own2 pre W W' ⟨own, c, hi, hfo, rfl, hd, hr, hl, hk⟩ hsz hb
      have hlr := lt_of_heap hl
      have hld := lt_of_heap hk
      exact ⟨own, c, hIx c own pre W W' hi hsz (fun k hk1 hk2 => hb k (cov_ne hk1) hk2), fun k hk1 => Nat.lt_of_lt_of_le (hfo k hk1) hsz, rfl, hd, hr, (hb _ (by simp [cov]) hlr).trans hl, (hb _ (by simp [cov]) hld).trans hk⟩
    · -- a round
      rintro own2 pre x W ⟨own, hi, hfo, rfl, hd, hr, hl, hk⟩ _ hlen
      have hlr := lt_of_heap hl
      have hld := lt_of_heap hk
      have hy := run_yield (P := P) (args := encs x) hl (by rw [hrec]; exact hps x)
      rw [hrec] at hy
      refine ⟨fn, _, assign, body, hy, roundIn_of_wpIn hfn (hassign _ x W _ ⟨_, run_beginRound hl (by rw [hrec]), ?_⟩)⟩
      have hl2 : (W.putObj (w.heap.size + 1) (.loop { rec .ready none with state := .busy })).heap[w.heap.size + 1]? = some (.loop { rec .ready none with state := .busy }) := World.putObj_heap_same hlr
      have hs2 : (W.putObj (w.heap.size + 1) (.loop { rec .ready none with state := .busy })).heap.size = W.heap.size := by simp
      have hk2 : (W.putObj (w.heap.size + 1) (.loop { rec .ready none with state := .busy })).heap[w.heap.size]? = some (.deferred (some [])) := (World.putObj_heap_other (by omega)).trans hk
      have hi2 : I own pre (W.putObj (w.heap.size + 1) (.loop { rec .ready none with state := .busy })) := hI own pre W _ hi (by omega) fun k hk1 _ => World.putObj_heap_other fun e => by subst e; exact hk1 hr
      refine wpIn_mono (hbody _ own pre x _ hi2 (fun k hk1 => by rw [hs2]; exact hfo k hk1) hlen) ?_
      have fin : ∀ (jump : Option Code) (own' : Ow) (W3 : World), Keeps own own' (W.putObj (w.heap.size + 1) (.loop { rec .ready none with state := .busy })) W3 →
          (Instr.endRound (w.heap.size + 1) jump).run P W3 = .ok (.bool jump.isNone) (W3.putObj (w.heap.size + 1) (.loop (rec (if jump.isNone then .ready else .done) jump))) ∧
          own' w.heap.size = none ∧ own' (w.heap.size + 1) = none ∧ Fresh own' (W3.putObj (w.heap.size + 1) (.loop (rec (if jump.isNone then .ready else .done) jump))) ∧
          (W3.putObj (w.heap.size + 1) (.loop (rec (if jump.isNone then .ready else .done) jump))).heap[w.heap.size + 1]? = some (.loop (rec (if jump.isNone then .ready else .done) jump)) ∧
          (W3.putObj (w.heap.size + 1) (.loop (rec (if jump.isNone then .ready else .done) jump))).heap[w.heap.size]? = some (.deferred (some [])) ∧
          (∀ k, own' k ≠ none → (W3.putObj (w.heap.size + 1) (.loop (rec (if jump.isNone then .ready else .done) jump))).heap[k]? = W3.heap[k]?) := fun jump own' W3 hk3 => by
        have hl3 := (hk3.block (w.heap.size + 1) (by omega) hr).trans hl2
        have hd3 : own' w.heap.size = none := (hk3.same _ (by omega)).trans hd
        have hr3 : own' (w.heap.size + 1) = none := (hk3.same _ (by omega)).trans hr
        have := run_endRound (P := P) jump hl3
        rw [hrec] at this ⊢
        refine ⟨this, hd3, hr3, fun k hk' => ?_, World.putObj_heap_same (lt_of_heap hl3), (World.putObj_heap_other (by omega)).trans ((hk3.block _ (by omega) hd).trans hk2), fun k hk' => World.putObj_heap_other fun e => by subst e; exact hk' hr3⟩
        have := (show Fresh own (W.putObj (w.heap.size + 1) (.loop { rec .ready none with state := .busy })) from fun k hk1 => by rw [hs2]; exact hfo k hk1).keeps hk3 k hk'
        simpa using this
      rintro e a3 W3 hp
      cases e with
      | normal =>
        obtain ⟨own', hk3, hi3⟩ := hp
        obtain ⟨hr4, hd3, hr3, hf3, hl4, hk4, hb4⟩ := fin none own' W3 hk3
        exact ⟨_, _, hr4, cov w.heap.size (w.heap.size + 1) own', keeps_round hk3 rfl, .inl ⟨rfl, own', hI own' _ W3 _ hi3 (by simp) (fun k h _ => hb4 k h), hf3, rfl, hd3, hr3, hl4, hk4⟩⟩
      | ret =>
        obtain ⟨own', hk3, hi3⟩ := hp
        obtain ⟨hr4, hd3, hr3, hf3, hl4, hk4, hb4⟩ := fin (some .ret) own' W3 hk3
        exact ⟨_, _, hr4, cov w.heap.size (w.heap.size + 1) own', keeps_round hk3 rfl, .inr ⟨rfl, own', .ret, hIx _ own' _ W3 _ hi3 (by simp) (fun k h _ => hb4 k h), hf3, rfl, hd3, hr3, hl4, hk4⟩⟩
      | exit id =>
        obtain ⟨own', hk3, hi3⟩ := hp
        obtain ⟨hr4, hd3, hr3, hf3, hl4, hk4, hb4⟩ := fin (some (.exit id)) own' W3 hk3
        exact ⟨_, _, hr4, cov w.heap.size (w.heap.size + 1) own', keeps_round hk3 rfl, .inr ⟨rfl, own', .exit id, hIx _ own' _ W3 _ hi3 (by simp) (fun k h _ => hb4 k h), hf3, rfl, hd3, hr3, hl4, hk4⟩⟩
      | goto t =>
        obtain ⟨own', hk3, hi3⟩ := hp
        obtain ⟨hr4, hd3, hr3, hf3, hl4, hk4, hb4⟩ := fin (some (.goto t)) own' W3 hk3
        exact ⟨_, _, hr4, cov w.heap.size (w.heap.size + 1) own', keeps_round hk3 rfl, .inr ⟨rfl, own', .goto t, hIx _ own' _ W3 _ hi3 (by simp) (fun k h _ => hb4 k h), hf3, rfl, hd3, hr3, hl4, hk4⟩⟩
      | panic ch => exact hp.elim
      | outgrown => exact hp.elim
    · -- behind the iterator
      have fin : ∀ (own own2 : Ow) (W2 : World) (o : Obj), Keeps (cov w.heap.size (w.heap.size + 1) own0) own2 W1 W2 → own2 = cov w.heap.size (w.heap.size + 1) own → own w.heap.size = none → own (w.heap.size + 1) = none → Keeps own0 own w (W2.putObj (w.heap.size + 1) o) := by
        intro own own2 W2 o hK he hd hr
        subst he
        refine ⟨hK.os.trans hb1.os, hK.tape.trans hb1.tape, hK.output.trans hb1.output, ?_, fun k hk hn => ?_, fun k hk => ?_, fun k hk => ?_⟩
        · have := hK.size; simp; omega
        · rw [World.putObj_heap_other (by omega), hK.block k (by omega) (by rw [cov_of (by omega) (by omega)]; exact hn)]
          exact hb1.block k hk
        · have := hK.same k (by omega)
          rwa [cov_of (by omega) (by omega), cov_of (by omega) (by omega)] at this
        · have hkd : k ≠ w.heap.size := fun e => by subst e; exact hk hd
          have hkr : k ≠ w.heap.size + 1 := fun e => by subst e; exact hk hr
          rcases hK.new k (by rw [cov_of hkd hkr]; exact hk) with h1 | h1
          · rw [cov_of hkd hkr] at h1; exact .inl h1
          · exact .inr ⟨by omega, by simp; exact h1.2⟩
      rintro e W2 ⟨⟨v, rfl⟩, own2, hK, (⟨xs, hS, own, hi, hfo, he, hd, hr, hl, hk⟩ | ⟨pre, hSp, own, c, hi, hfo, he, hd, hr, hl, hk⟩)⟩
      · have hend := run_endLoop (P := P) hl (by rw [hrec]; simp)
        rw [hrec] at hend
        exact ⟨none, _, hend, hdone own xs _ hS (hI own xs W2 _ hi (by simp) fun k h1 _ => World.putObj_heap_other fun e => by subst e; exact h1 hr) (fin own own2 W2 _ hK he hd hr) hd ((World.putObj_heap_other (by omega)).trans hk)⟩
      · have hend := run_endLoop (P := P) hl (by rw [hrec]; simp)
        rw [hrec] at hend
        exact ⟨some c, _, hend, hstop own c pre _ hSp (hIx c own pre W2 _ hi (by simp) fun k h1 _ => World.putObj_heap_other fun e => by subst e; exact h1 hr) (fin own own2 W2 _ hK he hd hr) hd ((World.putObj_heap_other (by omega)).trans hk)⟩
end Ne
end Go.Proofs.Ytllmddhahpegmaa
