/- Owner of a cache where a slab has the address. Slabs of a cache. Caches: Capacity; the calls of a nil cache. -/
import Derived.Test.YtlknhbcambdccaaK27
import Derived.Test.YtlknhbcambdccaaK25
import Derived.StillTailTactics
import Derived.Maps.AppendAt
import Derived.Test.YtlknhbcambdccaaK20
namespace Go.Proofs.Ytlknhbcambdccaa
open Go.RowKit
namespace Sl
open Bu

theorem owner_nums (d s q : Nat) (hd : d ≤ 65536) (hs : 8 ≤ s) (hq : q = d / s) : wrap64 ((d : Int).tdiv (s : Int)) = (q : Int) ∧ (d : Int) / (s : Int) = (q : Int) ∧ wrap64 (q : Int) = (q : Int) := by
  have h1 := quo_w64 d s hd hs
  rw [← hq] at h1
  have h2 : (d : Int) / (s : Int) = ((d / s : Nat) : Int) := rfl
  rw [← hq] at h2
  have h4 : q ≤ d := by rw [hq]; exact Nat.div_le_self _ _
  refine ⟨h1, h2, ?_⟩
  clear h1 h2 hq
  rw [← w64]; exact IntWalk.i64_in _ (by omega)

set_option maxRecDepth 100000 in
set_option maxHeartbeats 4000000 in
theorem ownerS_out (w : World) (own : Own?) (c b : Nat) (C : Ca) (N : Nat) (L : List Blk) (H : Held w own c b C N L) (at_ : Int) (ha1 : -9223372036854775808 ≤ at_) (ha2 : at_ < 9223372036854775808) (j d : Nat) (hhit : holdS C.order 0 C.sl at_ = some (j, d)) (x : Slb) (hx : C.sl[j]? = some x) (hv : x.us[d / C.size]? = none) :
    Calls Try.prog 13 #[.pointer (some ⟨c, 0, none⟩), .int .i64 at_] w fun e w' => e = .returned (.tuple #[.int .i64 0, .bool false, .int .i64 4]) ∧ ∃ n, w' = w.drewN n := by
  obtain ⟨x', hx', hd, -, -, -, hul, hxp⟩ := hit_data H hhit
  obtain rfl : x = x' := by rw [hx] at hx'; injection hx'
  clear hx'
  obtain ⟨A, cap, R, hC⟩ := H.at_
  have hpg : ∀ x ∈ C.sl, x.pg ≤ 1024 := fun x hx => by
    have h2 : x.pg + 2 ^ C.order ≤ 1024 := (st_le H.ok.st _ (H.ok.giv x hx)).2
    have := pow_pos2 C.order
    omega
  have hh := holder_ok w own c b C _ A cap R hC hpg H.ok.od H.ok.sz.2.1 at_ ha1 ha2
  unfold HoldR at hh
  rw [hhit] at hh
  simp only at hh
  obtain ⟨p, hp⟩ : ∃ p, R[j]? = some p := ⟨_, List.getElem?_eq_getElem (by have := (List.getElem?_eq_some_iff.1 hx).1; have := hC.len; omega)⟩
  have hh2 : Calls Try.prog 35 #[.pointer (some ⟨c, 0, none⟩), .int .i64 at_] w fun e w' => e = .returned (.tuple #[.pointer (some ⟨p, 0, none⟩), .int .i64 (d : Int)]) ∧ ∃ n, w' = w.drewN n := by
    refine hh.mono ?_
    rintro e w' ⟨⟨p', hp', he⟩, hw⟩
    rw [hp] at hp'
    injection hp' with hp'
    subst hp'
    exact ⟨he, hw⟩
  obtain ⟨c0, _⟩ := six_cells hC.cell
  obtain ⟨u, uc, hs⟩ := hC.slab j p x hp hx
  have HD := Lib.hid (dead_ok w c (some ⟨b, 0, none⟩) c0)
  have HH := Lib.hid hh2
  have hsz : (C.size : Int) ≠ 0 := by have := H.ok.sz.1; omega
  have hq : ∀ w : World, (binOp .eql 97 (.pointer (some ⟨p, 0, none⟩)) (.pointer none)).run Try.prog w = .ok (.bool false) w := fun w => run_eql_ptr_nil Try.prog w 97 _ (some ⟨p, 0, none⟩) Try.underlying97
  have e0 : (0 : Int) ≤ (d : Int) := by omega
  have e1 : (0 : Int) ≤ (C.size : Int) := by omega
  have hsz8 := H.ok.sz.1
  have hsz1 := H.ok.sz.2.1
  obtain ⟨hcap1, hcap2, _⟩ := row_caps hs.row
  have hcap3 : uc ≤ 9223372036854775807 := by unfold maxLen at hcap2; exact hcap2
  obtain ⟨q, hqe⟩ : ∃ q, q = d / C.size := ⟨_, rfl⟩
  have hn4 := owner_nums d C.size q hd hsz8 hqe
  have HG := Lib.hid hn4
  clear hn4
  rw [← hqe] at hv
  have hpos := Lib.hid hqe
  clear hqe
  have hCc := Lib.hid hC.cell
  have hsc := Lib.hid hs.cell
  have hsr := Lib.hid hs.row
  have hlen : x.us.length ≤ q := List.getElem?_eq_none_iff.1 hv
  have HL := Lib.hid hlen
  clear hv hlen hh hh2 hpg hC H c0 hs hp hx hhit hcap2 hcap1
  go_enter Try.func13, Try.ntmps13
  go_wp2_with (go_at_call 34; refine HD.out.mono ?_; rintro e w' ⟨rfl, rfl⟩)
  refine HH.out.mono ?_
  rintro _ W2 ⟨rfl, dd, hW2⟩
  have hh3 : ∀ k : Nat, W2.heap[k]? = w.heap[k]? := fun k => by rw [hW2]; rfl
  obtain ⟨d0, d1, d2, _⟩ := three_cells ((hh3 p).trans hsc.out)
  obtain ⟨_, f1, _, _, _, _, _, _⟩ := six_cells ((hh3 c).trans hCc.out)
  obtain ⟨g1, g3, g5⟩ := HG.out
  have hqd : decide (x.us.length ≤ q) = true := decide_eq_true HL.out
  have hqe : x.us.length ≤ q := HL.out
  have H2 := Lib.hid hW2
  clear hW2 hh3
  go_upto_region 5 with (fail)
  clear g1 g3
  go_wp2
  exact bodyPost_ret (v := .tuple #[.int .i64 0, .bool false, .int .i64 4]) (by simp [results, Try.results13, go_sem]) rfl ⟨rfl, _, H2.out⟩

set_option maxRecDepth 100000 in
set_option maxHeartbeats 4000000 in
theorem ownerS_in (w : World) (own : Own?) (c b : Nat) (C : Ca) (N : Nat) (L : List Blk) (H : Held w own c b C N L) (at_ : Int) (ha1 : -9223372036854775808 ≤ at_) (ha2 : at_ < 9223372036854775808) (j d : Nat) (hhit : holdS C.order 0 C.sl at_ = some (j, d)) (x : Slb) (hx : C.sl[j]? = some x) (v : Bool) (hv : x.us[d / C.size]? = some v) :
    Calls Try.prog 13 #[.pointer (some ⟨c, 0, none⟩), .int .i64 at_] w fun e w' => e = .returned (.tuple #[.int .i64 (addrS C.size x (d / C.size) : Nat), .bool v, .int .i64 0]) ∧ ∃ n, w' = w.drewN n := by
  obtain ⟨x', hx', hd, -, -, -, hul, hxp⟩ := hit_data H hhit
  obtain rfl : x = x' := by rw [hx] at hx'; injection hx'
  clear hx'
  obtain ⟨A, cap, R, hC⟩ := H.at_
  have hpg : ∀ x ∈ C.sl, x.pg ≤ 1024 := fun x hx => by
    have h2 : x.pg + 2 ^ C.order ≤ 1024 := (st_le H.ok.st _ (H.ok.giv x hx)).2
    have := pow_pos2 C.order
    omega
  have hh := holder_ok w own c b C _ A cap R hC hpg H.ok.od H.ok.sz.2.1 at_ ha1 ha2
  unfold HoldR at hh
  rw [hhit] at hh
  simp only at hh
  obtain ⟨p, hp⟩ : ∃ p, R[j]? = some p := ⟨_, List.getElem?_eq_getElem (by have := (List.getElem?_eq_some_iff.1 hx).1; have := hC.len; omega)⟩
  have hh2 : Calls Try.prog 35 #[.pointer (some ⟨c, 0, none⟩), .int .i64 at_] w fun e w' => e = .returned (.tuple #[.pointer (some ⟨p, 0, none⟩), .int .i64 (d : Int)]) ∧ ∃ n, w' = w.drewN n := by
    refine hh.mono ?_
    rintro e w' ⟨⟨p', hp', he⟩, hw⟩
    rw [hp] at hp'
    injection hp' with hp'
    subst hp'
    exact ⟨he, hw⟩
  obtain ⟨c0, _⟩ := six_cells hC.cell
  obtain ⟨u, uc, hs⟩ := hC.slab j p x hp hx
  have HD := Lib.hid (dead_ok w c (some ⟨b, 0, none⟩) c0)
  have HH := Lib.hid hh2
  have hsz : (C.size : Int) ≠ 0 := by have := H.ok.sz.1; omega
  have hq : ∀ w : World, (binOp .eql 97 (.pointer (some ⟨p, 0, none⟩)) (.pointer none)).run Try.prog w = .ok (.bool false) w := fun w => run_eql_ptr_nil Try.prog w 97 _ (some ⟨p, 0, none⟩) Try.underlying97
  have e0 : (0 : Int) ≤ (d : Int) := by omega
  have e1 : (0 : Int) ≤ (C.size : Int) := by omega
  have hsz8 := H.ok.sz.1
  have hsz1 := H.ok.sz.2.1
  obtain ⟨hcap1, hcap2, _⟩ := row_caps hs.row
  have hcap3 : uc ≤ 9223372036854775807 := by unfold maxLen at hcap2; exact hcap2
  obtain ⟨q, hqe⟩ : ∃ q, q = d / C.size := ⟨_, rfl⟩
  have hn4 := owner_nums d C.size q hd hsz8 hqe
  have HG := Lib.hid hn4
  clear hn4
  rw [← hqe] at hv ⊢
  have hpos := Lib.hid hqe
  clear hqe
  have hCc := Lib.hid hC.cell
  have hsc := Lib.hid hs.cell
  have hsr := Lib.hid hs.row
  have hql : q < x.us.length := (List.getElem?_eq_some_iff.1 hv).1
  have e2 : (0 : Int) ≤ (q : Int) := by omega
  have e3 : (q : Int) < (x.us.length : Int) := by omega
  have hq128 : q ≤ 1024 := by omega
  have HL := Lib.hid hv
  obtain ⟨ad, had⟩ : ∃ ad : Nat, ad = 64 * x.pg + q * C.size := ⟨_, rfl⟩
  have hadr : ∀ W : World, W.cell? ⟨c, 1, none⟩ = some (.int .i64 (C.size : Int)) → W.cell? ⟨p, 0, none⟩ = some (.int .i64 (x.pg : Int)) → Calls Try.prog 43 #[.pointer (some ⟨c, 0, none⟩), .pointer (some ⟨p, 0, none⟩), .int .i64 (q : Int)] W fun e w' => e = .returned (.int .i64 (ad : Int)) ∧ ∃ n, w' = W.drewN n := fun W h1 h2 => by
    have := address_ok W c p C.size x.pg q h1 h2 hsz1 hxp hq128
    rw [← had] at this
    exact this
  have HAd := Lib.hid hadr
  have hadv : (addrS C.size x q : Nat) = ad := had.symm
  rw [hadv]
  clear hv hh hh2 hpg hC H c0 hs hp hx hhit hcap2 hcap1 had hadv hadr
  go_enter Try.func13, Try.ntmps13
  go_wp2_with (go_at_call 34; refine HD.out.mono ?_; rintro e w' ⟨rfl, rfl⟩)
  refine HH.out.mono ?_
  rintro _ W2 ⟨rfl, dd, hW2⟩
  have hh3 : ∀ k : Nat, W2.heap[k]? = w.heap[k]? := fun k => by rw [hW2]; rfl
  obtain ⟨d0, d1, d2, _⟩ := three_cells ((hh3 p).trans hsc.out)
  obtain ⟨_, f1, _, _, _, _, _, _⟩ := six_cells ((hh3 c).trans hCc.out)
  obtain ⟨g1, g3, g5⟩ := HG.out
  have hqd : decide (x.us.length ≤ q) = false := by rw [decide_eq_false_iff_not]; exact Nat.not_le.2 hql
  have hqe : ¬ x.us.length ≤ q := Nat.not_le.2 hql
  have hrU : W2.ownsRow 0 4 1 (.slice (some ⟨u, 0, none⟩) x.us.length uc) x.us.length (bcells x.us) := row_same hsr.out fun g _ => hh3 g
  have u1 := row_cell hrU (i := q) (v := .bool v) (by rw [bcells_get, HL.out]; rfl)
  have HA2 := Lib.hid (fun n => HAd.out (W2.drewN n) f1 d0)
  have H2 := Lib.hid hW2
  clear hW2 hh3 hrU
  go_upto_region 5 with (fail)
  clear g1 g3
  go_wp2_with (fail)
  trace "Q"
  go_quiet ((go_at_call 43; exact Calls.quiet_of (HA2.out _)))
  go_wp2
  exact bodyPost_ret (v := .tuple #[.int .i64 (ad : Int), .bool v, .int .i64 0]) (by simp [results, Try.results13, go_sem]) rfl ⟨rfl, _, by rw [H2.out]; exact World.drewN_drewN ..⟩

theorem ownerS_ok (w : World) (own : Own?) (c b : Nat) (C : Ca) (N : Nat) (L : List Blk) (H : Held w own c b C N L) (at_ : Int) (ha1 : -9223372036854775808 ≤ at_) (ha2 : at_ < 9223372036854775808) :
    Calls Try.prog 13 #[.pointer (some ⟨c, 0, none⟩), .int .i64 at_] w fun e w' => e = .returned (match ownerC C at_ with | none => .tuple #[.int .i64 0, .bool false, .int .i64 4] | some (a, v) => .tuple #[.int .i64 (a : Int), .bool v, .int .i64 0]) ∧ ∃ n, w' = w.drewN n := by
  unfold ownerC
  cases hh : holdS C.order 0 C.sl at_ with
  | none => exact ownerS_none w own c b C N L H at_ ha1 ha2 hh
  | some jd =>
    obtain ⟨j, d⟩ := jd
    obtain ⟨x, hx, _⟩ := hit_data H hh
    simp only [hx]
    cases hv : x.us[d / C.size]? with
    | none => exact ownerS_out w own c b C N L H at_ ha1 ha2 j d hh x hx hv
    | some v => exact ownerS_in w own c b C N L H at_ ha1 ha2 j d hh x hx v hv
end Sl
end Go.Proofs.Ytlknhbcambdccaa
namespace Go.Proofs.Ytlknhbcambdccaa
open Go.RowKit Go.Shelf
namespace Sl
open Bu

/-- The cells of what Slabs returns. -/
def viewS (l : List Slb) : List Value := l.flatMap fun x => [.int .i64 (x.pg : Int), .int .i64 (x.many : Int)]
theorem viewS_add (l : List Slb) (x : Slb) : viewS (l ++ [x]) = viewS l ++ [.int .i64 (x.pg : Int), .int .i64 (x.many : Int)] := by simp [viewS]
theorem slslab_info : (Try.prog.info? 39).map (fun i => (i.zero.isSome, i.zero.map (fun z => z.cells.size), i.size, i.bytes)) = some (true, some 2, 2, 16) := by kernel_rfl
theorem own_row {w : World} {B T n : Nat} {v : Value} {L : List Value} {k : Nat} (h : w.ownsRow B T k v n L) : ∃ A c, v = .slice A n c := by
  rcases h.2 with ⟨hv, hn⟩ | ⟨g, cp, cur, hv, _⟩
  · exact ⟨none, 0, by rw [hv, hn]⟩
  · exact ⟨_, _, hv⟩

set_option maxRecDepth 100000 in
set_option maxHeartbeats 4000000 in
theorem slabsS_ok (w : World) (own : Own?) (c b : Nat) (C : Ca) (N : Nat) (L : List Blk) (H : Held w own c b C N L) :
    Calls Try.prog 14 #[.pointer (some ⟨c, 0, none⟩)] w fun e w' => (∃ A cp, e = .returned (.tuple #[.slice A C.sl.length cp, .int .i64 0]) ∧ w'.ownsRow w.heap.size 39 2 (.slice A C.sl.length cp) C.sl.length (viewS C.sl)) ∧ Below w.heap.size w w' := by
  obtain ⟨A0, cap, R, hC⟩ := H.at_
  obtain ⟨c0, _, _, _, c4, _⟩ := six_cells hC.cell
  have hsl := ok_len H.ok
  have hul : ∀ x ∈ C.sl, x.us.length ≤ 128 := fun x hx => by rw [H.ok.len x hx]; exact (capa_pos H.ok).2.1
  obtain ⟨n, hn⟩ : ∃ n, n = C.sl.length := ⟨_, rfl⟩
  have hRn : R.length = n := hC.len.trans hn.symm
  rw [hRn] at c4
  rw [← hn] at hsl
  have hcp : n ≤ cap := by
    rcases hC.row.2 with ⟨hv, h0⟩ | ⟨g, cp, cur, hv, _, _, g1, g2, _⟩
    · omega
    · injection hv with _ _ h3; omega
  have HD := Lib.hid (dead_ok w c (some ⟨b, 0, none⟩) c0)
  have hst : C.sl.take 0 = [] := List.take_zero
  have HX := Lib.hid (And.intro hC (And.intro hn (And.intro hRn (And.intro hul H.fresh))))
  obtain ⟨i0, z0, hi0, hz0, hz1, hz2, hz3⟩ := info_open slslab_info
  rw [← hn]
  clear hC H hn hRn c0 hst hul
  go_enter Try.func14, Try.ntmps14
  go_wp2_with (go_at_call 34; refine HD.out.mono ?_; rintro e w' ⟨rfl, rfl⟩)
  clear c4
  go_loopw [4, 14] (fun v i wr => ∃ (k : Nat) (A : Option Addr) (cp : Nat), k ≤ n ∧ i = .int .i64 (k : Int) ∧ v = .slice A k cp ∧ wr.ownsRow w.heap.size 39 2 (.slice A k cp) k (viewS (C.sl.take k)) ∧ Below w.heap.size w wr) (fun _ i _ => n - (intOf i).toNat)
  case atStart => exact ⟨0, none, 0, Nat.zero_le _, rfl, rfl, World.ownsRow_nil _ _ _ _, Below.refl _ _⟩
  case round =>
    obtain ⟨k, A, cp, hk, rfl, rfl, hr, hb⟩ := hrel
    have e0 : (0 : Int) ≤ (k : Int) := by omega
    by_cases hlt : k < n
    · have e1 : (k : Int) < (n : Int) := by omega
      have hC := HX.out.1
      obtain ⟨x, hx⟩ : ∃ x, C.sl[k]? = some x := ⟨_, List.getElem?_eq_getElem (by have := HX.out.2.1; omega)⟩
      obtain ⟨p, hp⟩ : ∃ p, R[k]? = some p := ⟨_, List.getElem?_eq_getElem (by have := HX.out.2.2.1; omega)⟩
      obtain ⟨u, uc, hs⟩ := hC.slab k p x hp hx
      obtain ⟨g, rfl⟩ : ∃ g, A0 = some ⟨g, 0, none⟩ := by
        rcases hC.row.2 with ⟨_, h0⟩ | ⟨g, cp, cur, hv, _⟩
        · have := (List.getElem?_eq_some_iff.1 hp).1; omega
        · injection hv with hv; exact ⟨g, hv⟩
      have r0 : wr.cell? ⟨g, k, none⟩ = some (.pointer (some ⟨p, 0, none⟩)) := (World.cell?_of_block (a := ⟨g, k, none⟩) (hb.block g (HX.out.2.2.2.2 g (by rw [hC.ownG g rfl]; simp)))).trans (row_cell hC.row (i := k) (v := .pointer (some ⟨p, 0, none⟩)) (by unfold ptrs; rw [List.getElem?_map, hp]; rfl))
      obtain ⟨p0, _, p2, _⟩ := three_cells ((hb.block p (HX.out.2.2.2.2 p (by rw [hs.ownP]; simp))).trans hs.cell)
      have hkk : IntKind.i64.wrap ((k : Int) + 1) = ((k + 1 : Nat) : Int) := by rw [IntWalk.i64_in _ (by omega)]; rfl
      obtain ⟨obx, hobx⟩ : ∃ obx, C.sl.take (k + 1) = obx ∧ viewS obx = viewS (C.sl.take k) ++ [.int .i64 (x.pg : Int), .int .i64 (x.many : Int)] := by
        obtain ⟨hk2, he⟩ := List.getElem?_eq_some_iff.1 hx
        exact ⟨_, rfl, by rw [List.take_succ_eq_append_getElem hk2, he, viewS_add]⟩
      obtain ⟨m, hm⟩ : ∃ m, m = x.many := ⟨_, rfl⟩
      obtain ⟨pre, hpre⟩ : ∃ pre, pre = viewS (C.sl.take k) := ⟨_, rfl⟩
      rw [← hm] at p2 hobx
      rw [← hpre] at hr hobx
      have hrd : (wr.alloc (.cells #[.int .i64 (x.pg : Int), .int .i64 (m : Int)] 39)).drew.ownsRow w.heap.size 39 2 (.slice A k cp) k pre := row_keep hr fun z _ hz => alloc_old _ _ _ hz
      have HNW := Lib.hid (show ∀ j u, [Value.int .i64 (x.pg : Int), .int .i64 (m : Int)][j]? = some u → (wr.alloc (.cells #[.int .i64 (x.pg : Int), .int .i64 (m : Int)] 39)).drew.cell? ((⟨wr.heap.size, 0, none⟩ : Addr).add j) = some u from fun j u hu => two_new wr _ _ _ j u hu)
      have HSD := Lib.hid (show (wr.alloc (.cells #[.int .i64 (x.pg : Int), .int .i64 (m : Int)] 39)).drew.heap.size = wr.heap.size + 1 by show (wr.alloc _).heap.size = _; simp)
      have hsz := hb.size
      have HJ := Lib.hid (And.intro hb hobx)
      have HRD := Lib.hid hrd
      clear hrd hb hobx hx hp hC hs hm hpre hr
      go_wp2_with (fail)
      go_region_law ((refine step_append_lies _ (by rfl) (.tmp 18) (.tmp 28) _ (by rfl) w.heap.size 39 i0 z0 2 16 Try.underlying30 hi0 hz0 hz1 hz2 hz3 (by omega) (.slice A k cp) k pre (by rfl) HRD.out ⟨wr.heap.size, 0, none⟩ 1 1 [.int .i64 (x.pg : Int), .int .i64 (m : Int)] (by rfl) (by rfl) HNW.out (by simp [Value.oneCell']) (by omega) (by unfold maxLen; omega) (by omega) (by rw [HSD.out]; omega) (wr.heap.size + 1) HSD.out ?_; intro g6 cap6 w6 hown6 hgrow6 hat6 hlt6; have H6 := Lib.hid (And.intro hown6 hgrow6); clear hown6 hgrow6 hat6 hlt6))
      all_goals
        go_wp2_with (fail)
        go_roundw
        case rel =>
          refine ⟨k + 1, _, _, by omega, by go_num, rfl, ?_, ?_⟩
          · rw [HJ.out.2.1, HJ.out.2.2]
            exact row_keep H6.out.1 fun _ _ _ => rfl
          · have hb := HJ.out.1
            refine ((hb.alloc (by omega) (.cells #[.int .i64 (x.pg : Int), .int .i64 (m : Int)] 39)).drew.grown H6.out.2 (by rw [HSD.out]; omega) fun z hz => ?_)
            exact (HRD.out.lt z hz).1
        case measure => simp [intOf]; omega
    · obtain rfl : k = n := by omega
      have e1 : ¬ ((k : Nat) : Int) < (k : Int) := by omega
      have HJ := Lib.hid (And.intro hr hb)
      clear hr hb
      go_wp2
      go_ret2
      obtain ⟨hr, hb⟩ := HJ.out
      rw [HX.out.2.1, List.take_length, ← HX.out.2.1] at hr
      exact ⟨⟨A, cp, rfl, hr⟩, hb⟩
end Sl
end Go.Proofs.Ytlknhbcambdccaa
namespace Go.Proofs.Ytlknhbcambdccaa
open Go.RowKit
namespace Sl
open Bu

set_option maxRecDepth 100000 in
set_option maxHeartbeats 1000000 in
theorem capacityS_ok (w : World) (c size order : Nat) (p : Option Addr) (h0 : w.cell? ⟨c, 0, none⟩ = some (.pointer p)) (hp : p.isNone = false) (h1 : w.cell? ⟨c, 1, none⟩ = some (.int .i64 (size : Int))) (h2 : w.cell? ⟨c, 2, none⟩ = some (.int .i64 (order : Int))) (hs : 8 ≤ size) (ho : order ≤ 4) :
    Calls Try.prog 29 #[.pointer (some ⟨c, 0, none⟩)] w fun e w' => e = .returned (.tuple #[.int .i64 (capa size order : Int), .int .i64 0]) ∧ ∃ n, w' = w.drewN n := by
  have hd := dead_ok w c p h0
  rw [hp] at hd
  have HD := Lib.hid hd
  have HC := Lib.hid (capacity_ok w c size order h1 h2 hs ho)
  obtain ⟨cp, hcp⟩ : ∃ cp, cp = capa size order := ⟨_, rfl⟩
  rw [← hcp] at HC ⊢
  clear hd hcp h0 h1 h2
  go_enter Try.func29, Try.ntmps29
  go_wp2_with (first | (go_at_call 34; refine HD.out.mono ?_; rintro e w' ⟨rfl, rfl⟩) | (go_at_call 40; refine HC.out.mono ?_; rintro e w' ⟨rfl, d, rfl⟩))
  go_ret2
  exact ⟨rfl, _, rfl⟩

set_option maxRecDepth 100000 in
theorem capacityS_nil (w : World) : Calls Try.prog 29 #[.pointer none] w fun e w' => e = .returned (.tuple #[.int .i64 0, .int .i64 1]) ∧ w = w' := by
  have HD := Lib.hid (dead_nil w)
  go_enter Try.func29, Try.ntmps29
  go_wp2_with (go_at_call 34; refine HD.out.mono ?_; rintro e w' ⟨rfl, rfl⟩)
  go_ret2
  exact ⟨rfl, rfl⟩
set_option maxRecDepth 100000 in
theorem trim_nil (w : World) : Calls Try.prog 20 #[.pointer none] w fun e w' => e = .returned (.tuple #[.int .i64 0, .int .i64 1]) ∧ w = w' := by
  have HD := Lib.hid (dead_nil w)
  go_enter Try.func20, Try.ntmps20
  go_wp2_with (go_at_call 34; refine HD.out.mono ?_; rintro e w' ⟨rfl, rfl⟩)
  go_ret2
  exact ⟨rfl, rfl⟩
set_option maxRecDepth 100000 in
theorem slabs_nil (w : World) : Calls Try.prog 14 #[.pointer none] w fun e w' => e = .returned (.tuple #[.slice none 0 0, .int .i64 1]) ∧ w = w' := by
  have HD := Lib.hid (dead_nil w)
  go_enter Try.func14, Try.ntmps14
  go_wp2_with (go_at_call 34; refine HD.out.mono ?_; rintro e w' ⟨rfl, rfl⟩)
  go_ret2
  exact ⟨rfl, rfl⟩
end Sl
end Go.Proofs.Ytlknhbcambdccaa
