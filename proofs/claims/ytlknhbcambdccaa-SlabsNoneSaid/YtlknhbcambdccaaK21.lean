/- holder: the slab that has an address. Owner of a cache. Slabs, plain: where a slab is put, which one is selected. -/
import Derived.Test.YtlknhbcambdccaaK20
import Derived.Deep.CutRange
import Derived.BigQuiet
import Derived.Test.YtlknhbcambdccaaK1
namespace Go.Proofs.Ytlknhbcambdccaa
open Go.RowKit
namespace Sl
open Bu

/-- A slab has an address. -/
def hitS (order : Nat) (at_ : Int) (x : Slb) : Prop := 64 * (x.pg : Int) ≤ at_ ∧ at_ < 64 * (x.pg : Int) + ((64 * 2 ^ order : Nat) : Int)
theorem holdS_none {order : Nat} {at_ : Int} : ∀ {l : List Slb} (i : Nat), (∀ (j : Nat) (x : Slb), l[j]? = some x → ¬ hitS order at_ x) → holdS order i l at_ = none := by
  intro l
  induction l with
  | nil => intro i _; rfl
  | cons y l ih =>
    intro i h
    unfold holdS
    rw [if_neg (fun hq => h 0 y rfl ⟨hq.1, hq.2⟩)]
    exact ih (i + 1) fun j x hx => h (j + 1) x (by simpa using hx)
theorem holdS_at {order : Nat} {at_ : Int} : ∀ {l : List Slb} (i k : Nat) {x : Slb}, l[k]? = some x → hitS order at_ x → (∀ (j : Nat) (y : Slb), j < k → l[j]? = some y → ¬ hitS order at_ y) → holdS order i l at_ = some (i + k, (at_ - 64 * (x.pg : Int)).toNat) := by
  intro l
  induction l with
  | nil => intro i k x hx; simp at hx
  | cons y l ih =>
    intro i k x hx hh hno
    unfold holdS
    cases k with
    | zero =>
      have : y = x := by simpa using hx
      subst this
      rw [if_pos ⟨hh.1, hh.2⟩]; rfl
    | succ k =>
      rw [if_neg (fun hq => hno 0 y (by omega) rfl ⟨hq.1, hq.2⟩)]
      rw [ih (i + 1) k (by simpa using hx) hh fun j z hj hz => hno (j + 1) z (by omega) (by simpa using hz)]
      congr 2; omega

/-- What holder answers. -/
def HoldR (R : List Nat) (C : Ca) (at_ : Int) (e : Ending) : Prop :=
  match holdS C.order 0 C.sl at_ with
  | none => e = .returned (.tuple #[.pointer none, .int .i64 0])
  | some (j, d) => ∃ p, R[j]? = some p ∧ e = .returned (.tuple #[.pointer (some ⟨p, 0, none⟩), .int .i64 (d : Int)])

set_option maxRecDepth 100000 in
set_option maxHeartbeats 8000000 in
theorem holder_ok (w : World) (own : Own?) (c b : Nat) (C : Ca) (e : Nat) (A : Option Addr) (cap : Nat) (R : List Nat) (hC : CacheAt w own c b C e A cap R) (hpg : ∀ x ∈ C.sl, x.pg ≤ 1024) (hod : C.order ≤ 4) (hsz : C.size ≤ 1024)
    (at_ : Int) (ha1 : -9223372036854775808 ≤ at_) (ha2 : at_ < 9223372036854775808) :
    Calls Try.prog 35 #[.pointer (some ⟨c, 0, none⟩), .int .i64 at_] w fun e w' => HoldR R C at_ e ∧ ∃ n, w' = w.drewN n := by
  obtain ⟨_, c1, c2, _, c4, _, _, _⟩ := six_cells hC.cell
  obtain ⟨n, hn⟩ : ∃ n, n = R.length := ⟨_, rfl⟩
  have hnl : n = C.sl.length := hn.trans hC.len
  rw [← hn] at c4
  have hcap : n ≤ cap ∧ cap ≤ maxLen := by
    rcases hC.row.2 with ⟨hv, h0⟩ | ⟨g, cp, cur, hv, _, _, g1, g2, _⟩
    · injection hv with _ _ h3; unfold maxLen; omega
    · injection hv with _ _ h3; rw [hn, h3]; exact ⟨g1, g2⟩
  obtain ⟨hcap1, hcap2⟩ := hcap
  unfold maxLen at hcap2
  have HX := Lib.hid (And.intro hC (And.intro hn (And.intro hnl hpg)))
  have HC0 := Lib.hid (And.intro c1 (And.intro c2 hod))
  obtain ⟨y, hy⟩ : ∃ y : Nat, y = 64 * 2 ^ C.order := ⟨_, rfl⟩
  have hsh : wrap64 ((64 : Int) * 2 ^ C.order) = (y : Int) := by rw [hy]; exact shl_w64 _ hod
  have e0o : (0 : Int) ≤ (C.order : Int) := by omega
  have hy2 : y ≤ 1024 := by
    have : 2 ^ C.order ≤ 2 ^ 4 := Nat.pow_le_pow_right (by decide) hod
    omega
  have HY := Lib.hid hy
  have hsh2 : wrap64 ((64 : Int) * 2 ^ min C.order 64) = (y : Int) := by rw [show min C.order 64 = C.order by omega]; exact hsh
  clear hC hn hnl hpg hy c1 hod
  go_enter Try.func35, Try.ntmps35
  go_wp2_with (fail)
  clear c4 c2
  go_loopw [7, 8, 14] (fun _ _ i wr => ∃ k : Nat, k ≤ n ∧ i = .int .i64 (k : Int) ∧ (∀ (j : Nat) (x : Slb), j < k → C.sl[j]? = some x → ¬ hitS C.order at_ x) ∧ ∃ d, wr = w.drewN d) (fun _ _ i _ => n - (intOf i).toNat)
  case atStart => exact ⟨0, Nat.zero_le _, rfl, fun j x hj => by omega, 0, rfl⟩
  case round =>
    obtain ⟨k, hk, rfl, hno, d0, hwr⟩ := hrel
    have e0 : (0 : Int) ≤ (k : Int) := by omega
    have c1 : wr.cell? ⟨c, 1, none⟩ = some (.int .i64 (C.size : Int)) := by rw [hwr]; exact HC0.out.1
    have c2 : wr.cell? ⟨c, 2, none⟩ = some (.int .i64 (C.order : Int)) := by rw [hwr]; exact HC0.out.2.1
    have HW := Lib.hid hwr
    have HN := Lib.hid hno
    clear hno
    by_cases hlt : k < n
    · have e1 : (k : Int) < (n : Int) := by omega
      obtain ⟨p, hp⟩ : ∃ p, R[k]? = some p := ⟨_, List.getElem?_eq_getElem (by have := HX.out.2.1; omega)⟩
      obtain ⟨x, hx⟩ : ∃ x, C.sl[k]? = some x := ⟨_, List.getElem?_eq_getElem (by have := HX.out.2.2.1; omega)⟩
      obtain ⟨u, uc, hs⟩ := HX.out.1.slab k p x hp hx
      have hkk : IntKind.i64.wrap ((k : Int) + 1) = ((k + 1 : Nat) : Int) := by rw [IntWalk.i64_in _ (by omega)]; rfl
      have hxp := HX.out.2.2.2 x (List.mem_of_getElem? hx)
      have p0 : wr.cell? ⟨p, 0, none⟩ = some (.int .i64 (x.pg : Int)) := by rw [hwr]; exact (three_cells hs.cell).1
      obtain ⟨g, hA⟩ : ∃ g, A = some ⟨g, 0, none⟩ := by
        rcases HX.out.1.row.2 with ⟨_, h0⟩ | ⟨g, cp, cur, hv, _⟩
        · have := HX.out.2.1; omega
        · injection hv with hv; exact ⟨g, hv⟩
      have hrow := HX.out.1.row
      subst hA
      have hgc : wr.cell? ⟨g, k, none⟩ = some (.pointer (some ⟨p, 0, none⟩)) := by rw [hwr]; exact row_cell hrow (i := k) (v := .pointer (some ⟨p, 0, none⟩)) (by unfold ptrs; rw [List.getElem?_map, hp]; rfl)
      have hadr := address_ok wr c p C.size x.pg 0 c1 p0 hsz hxp (by omega)
      obtain ⟨z, hz⟩ : ∃ z : Nat, z = 64 * x.pg := ⟨_, rfl⟩
      rw [Nat.zero_mul, Nat.add_zero, ← hz] at hadr
      have HAd := Lib.hid hadr
      have hz2 : z ≤ 65536 := by omega
      have hhit : hitS C.order at_ x ↔ (z : Int) ≤ at_ ∧ at_ < (z : Int) + (y : Int) := by
        unfold hitS
        rw [HY.out, hz]
        omega
      have HP := Lib.hid (And.intro hp (And.intro hx (And.intro hhit hz)))
      clear hadr hs hp hx hrow p0 hz hwr c1 hxp
      obtain ⟨dv, hdv⟩ : ∃ dv, dv = IntKind.i64.wrap (at_ - (z : Int)) := ⟨_, rfl⟩
      by_cases hh : (z : Int) ≤ at_ ∧ at_ < (z : Int) + (y : Int)
      · obtain ⟨h1, h2⟩ := hh
        have t1 : (0 : Int) ≤ at_ := by omega
        have hdv2 : IntKind.i64.wrap (at_ - (z : Int)) = at_ - (z : Int) := IntWalk.i64_in _ (by omega)
        have t3 : at_ - (z : Int) < wrap64 ((64 : Int) * 2 ^ min C.order 64) := by rw [hsh2]; omega
        have HD := Lib.hid (And.intro h1 h2)
        clear h2 hhit hdv
        go_wp2_with (go_at_call 43; refine HAd.out.mono ?_; rintro e w' ⟨rfl, dd, rfl⟩)
        go_ret2
        refine ⟨?_, _, by rw [HW.out]; exact World.drewN_drewN ..⟩
        unfold HoldR
        rw [holdS_at 0 k HP.out.2.1 (HP.out.2.2.1.2 HD.out) HN.out]
        refine ⟨p, by rw [Nat.zero_add]; exact HP.out.1, ?_⟩
        have := HP.out.2.2.2
        have := HD.out.1
        rw [show ((at_ - 64 * (x.pg : Int)).toNat : Int) = at_ - (z : Int) by omega]
        rfl
      · have hnx : ∀ (j : Nat) (x' : Slb), j < k + 1 → C.sl[j]? = some x' → ¬ hitS C.order at_ x' := fun j x' hj hx' => by
          by_cases ej : j = k
          · subst ej
            have := HP.out.2.1
            rw [this] at hx'
            injection hx' with hx'
            subst hx'
            exact fun h => hh (HP.out.2.2.1.1 h)
          · exact HN.out j x' (by omega) hx'
        have HN2 := Lib.hid hnx
        clear hnx hhit
        by_cases h0 : 0 ≤ at_
        · have hdv2 : IntKind.i64.wrap (at_ - (z : Int)) = at_ - (z : Int) := IntWalk.i64_in _ (by omega)
          by_cases h1 : (z : Int) ≤ at_
          · have t3 : wrap64 ((64 : Int) * 2 ^ min C.order 64) ≤ at_ - (z : Int) := by rw [hsh2]; omega
            have t4 : ¬ at_ - (z : Int) < wrap64 ((64 : Int) * 2 ^ min C.order 64) := by omega
            clear hh hdv
            go_wp2_with (go_at_call 43; refine HAd.out.mono ?_; rintro e w' ⟨rfl, dd, rfl⟩)
            go_roundw
            case rel => exact ⟨k + 1, by omega, by go_num, HN2.out, _, by rw [HW.out]; exact World.drewN_drewN ..⟩
            case measure => simp [intOf]; omega
          · have t2 : at_ < (z : Int) := by omega
            clear hh hdv
            go_wp2_with (go_at_call 43; refine HAd.out.mono ?_; rintro e w' ⟨rfl, dd, rfl⟩)
            go_roundw
            case rel => exact ⟨k + 1, by omega, by go_num, HN2.out, _, by rw [HW.out]; exact World.drewN_drewN ..⟩
            case measure => simp [intOf]; omega
        · have t1 : at_ < 0 := by omega
          rw [eq_comm] at hdv
          clear hh
          go_wp2_with (go_at_call 43; refine HAd.out.mono ?_; rintro e w' ⟨rfl, dd, rfl⟩)
          go_roundw
          case rel => exact ⟨k + 1, by omega, by go_num, HN2.out, _, by rw [HW.out]; exact World.drewN_drewN ..⟩
          case measure => simp [intOf]; omega
    · obtain rfl : k = n := by omega
      have e1 : ¬ ((k : Nat) : Int) < (k : Int) := by omega
      go_wp2
      go_ret2
      refine ⟨?_, _, rfl⟩
      unfold HoldR
      rw [holdS_none 0 (fun j x hx => HN.out j x (by have := (List.getElem?_eq_some_iff.1 hx).1; have := HX.out.2.2.1; omega) hx)]
      rfl
end Sl
end Go.Proofs.Ytlknhbcambdccaa
namespace Go.Proofs.Ytlknhbcambdccaa
open Go.RowKit
namespace Sl
open Bu

/-- Owner: the object's address, and whether it is allocated. -/
def ownerC (C : Ca) (at_ : Int) : Option (Nat × Bool) :=
  match holdS C.order 0 C.sl at_ with
  | none => none
  | some (j, d) => match C.sl[j]? with
    | none => none
    | some x => match x.us[d / C.size]? with
      | none => none
      | some v => some (addrS C.size x (d / C.size), v)

set_option maxRecDepth 100000 in
set_option maxHeartbeats 4000000 in
theorem ownerS_none (w : World) (own : Own?) (c b : Nat) (C : Ca) (N : Nat) (L : List Blk) (H : Held w own c b C N L) (at_ : Int) (ha1 : -9223372036854775808 ≤ at_) (ha2 : at_ < 9223372036854775808) (hno : holdS C.order 0 C.sl at_ = none) :
    Calls Try.prog 13 #[.pointer (some ⟨c, 0, none⟩), .int .i64 at_] w fun e w' => e = .returned (.tuple #[.int .i64 0, .bool false, .int .i64 4]) ∧ ∃ n, w' = w.drewN n := by
  obtain ⟨A, cap, R, hC⟩ := H.at_
  have hpg : ∀ x ∈ C.sl, x.pg ≤ 1024 := fun x hx => by
    have h2 : x.pg + 2 ^ C.order ≤ 1024 := (st_le H.ok.st _ (H.ok.giv x hx)).2
    have := pow_pos2 C.order
    omega
  have hh := holder_ok w own c b C _ A cap R hC hpg H.ok.od H.ok.sz.2.1 at_ ha1 ha2
  unfold HoldR at hh
  rw [hno] at hh
  obtain ⟨c0, c1, _, _, _, _, _, _⟩ := six_cells hC.cell
  have HD := Lib.hid (dead_ok w c (some ⟨b, 0, none⟩) c0)
  have HH := Lib.hid hh
  have hsz : (C.size : Int) ≠ 0 := by have := H.ok.sz.1; omega
  have hq : ∀ w : World, (binOp .eql 97 (.pointer none) (.pointer none)).run Try.prog w = .ok (.bool true) w := fun w => run_eql_ptr_nil Try.prog w 97 _ none Try.underlying97
  clear hh hno hpg hC H c0
  go_enter Try.func13, Try.ntmps13
  go_wp2_with (first | (go_at_call 34; refine HD.out.mono ?_; rintro e w' ⟨rfl, rfl⟩) | (go_at_call 35; refine HH.out.mono ?_; rintro e w' ⟨rfl, d, rfl⟩))
  exact bodyPost_ret (v := .tuple #[.int .i64 0, .bool false, .int .i64 4]) (by simp [results, Try.results13, go_sem]) rfl ⟨rfl, _, rfl⟩
end Sl
end Go.Proofs.Ytlknhbcambdccaa
namespace Go.Proofs.Ytlknhbcambdccaa
namespace Bu

/-- The first slab at a page or after it. -/
def posS (l : List Slb) (p : Nat) : Nat := (l.takeWhile fun x => decide (x.pg < p)).length
theorem posS_le (l : List Slb) (p : Nat) : posS l p ≤ l.length := (List.takeWhile_sublist _).length_le
theorem posS_iff {p : Nat} : ∀ {l : List Slb}, l.Pairwise (fun a b => a.pg < b.pg) → ∀ (i : Nat) (x : Slb), l[i]? = some x → (x.pg < p ↔ i < posS l p) := by
  intro l
  induction l with
  | nil => intro _ i x h; simp at h
  | cons y l ih =>
    intro h i x hx
    rw [List.pairwise_cons] at h
    unfold posS
    rw [List.takeWhile_cons]
    by_cases e : y.pg < p
    · simp only [e, decide_true, if_true, List.length_cons]
      cases i with
      | zero => simp at hx; subst hx; exact ⟨fun _ => by omega, fun _ => e⟩
      | succ i =>
        have := ih h.2 i x (by simpa using hx)
        unfold posS at this
        rw [this]; omega
    · simp only [e, decide_false]
      refine ⟨fun hlt => ?_, fun hl => by simp at hl⟩
      exfalso
      cases i with
      | zero => simp at hx; subst hx; exact e hlt
      | succ i =>
        have := h.1 x (List.mem_of_getElem? (by simpa using hx))
        omega
theorem insS_at {x : Slb} : ∀ {l : List Slb}, (∀ y ∈ l, y.pg ≠ x.pg) → insS l x = l.take (posS l x.pg) ++ x :: l.drop (posS l x.pg) := by
  intro l
  induction l with
  | nil => intro _; rfl
  | cons y l ih =>
    intro hne
    unfold insS posS
    rw [List.takeWhile_cons]
    by_cases e : y.pg < x.pg
    · rw [if_neg (by omega)]
      simp only [e, decide_true, if_true, List.length_cons, List.take_succ_cons, List.drop_succ_cons]
      rw [ih fun z hz => hne z (List.mem_cons_of_mem _ hz)]
      rfl
    · have := hne y (List.mem_cons_self ..)
      rw [if_pos (by omega)]
      simp [e]

/-- One slab considered. -/
def stepS (i : Nat) (a : Option (Nat × Nat)) (x : Slb) : Option (Nat × Nat) := if x.many < x.us.length ∧ (∀ p, a = some p → p.2 < x.many) then some (i, x.many) else a
theorem pickS_cons (i : Nat) (a : Option (Nat × Nat)) (x : Slb) (l : List Slb) : pickS i a (x :: l) = pickS (i + 1) (stepS i a x) l := rfl
theorem pickS_snoc (x : Slb) : ∀ (l : List Slb) (i : Nat) (a : Option (Nat × Nat)), pickS i a (l ++ [x]) = stepS (i + l.length) (pickS i a l) x := by
  intro l
  induction l with
  | nil => intro i a; rfl
  | cons y l ih =>
    intro i a
    rw [List.cons_append, pickS_cons, pickS_cons, ih, List.length_cons]
    congr 1
    omega
theorem pickS_take {l : List Slb} {k : Nat} {x : Slb} (h : l[k]? = some x) : pickS 0 none (l.take (k + 1)) = stepS k (pickS 0 none (l.take k)) x := by
  obtain ⟨hk, he⟩ := List.getElem?_eq_some_iff.1 h
  rw [List.take_succ_eq_append_getElem hk, pickS_snoc, he, List.length_take, Nat.min_eq_left (by omega), Nat.zero_add]
theorem pickS_some {l : List Slb} : ∀ {k j m : Nat}, k ≤ l.length → pickS 0 none (l.take k) = some (j, m) → ∃ x, l[j]? = some x ∧ x.many = m ∧ m < x.us.length ∧ j < k := by
  intro k
  induction k with
  | zero => intro j m _ h; rw [List.take_zero] at h; cases h
  | succ k ih =>
    intro j m hk h
    obtain ⟨x, hx⟩ : ∃ x, l[k]? = some x := ⟨_, List.getElem?_eq_getElem (by omega)⟩
    rw [pickS_take hx] at h
    unfold stepS at h
    split at h
    · next hc =>
      injection h with h
      injection h with h1 h2
      subst h1
      exact ⟨x, hx, h2, by rw [← h2]; exact hc.1, by omega⟩
    · obtain ⟨y, hy, h1, h2, h3⟩ := ih (by omega) h
      exact ⟨y, hy, h1, h2, by omega⟩
theorem pickS_none {l : List Slb} : ∀ {k : Nat}, k ≤ l.length → pickS 0 none (l.take k) = none → ∀ (i : Nat) (x : Slb), i < k → l[i]? = some x → x.us.length ≤ x.many := by
  intro k
  induction k with
  | zero => intro _ _ i x hi; omega
  | succ k ih =>
    intro hk h i x hi hx
    obtain ⟨y, hy⟩ : ∃ y, l[k]? = some y := ⟨_, List.getElem?_eq_getElem (by omega)⟩
    rw [pickS_take hy] at h
    unfold stepS at h
    split at h
    · cases h
    · next hc =>
      by_cases e : i = k
      · subst e
        rw [hy] at hx
        injection hx with hx
        subst hx
        refine Nat.le_of_not_lt fun hlt => hc ⟨hlt, fun p hp => ?_⟩
        rw [h] at hp; cases hp
      · exact ih (by omega) h i x (by omega) hx
end Bu
end Go.Proofs.Ytlknhbcambdccaa
