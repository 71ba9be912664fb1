/- neighbour of the law: what it leaves. neighbour of the law: it takes a block. neighbour of the law: it gives a block back. does of the law: all acts. -/
import Derived.Test.YtlknhbcambdccaaK35
import Derived.Deep.RegionHeld3
import Derived.Deep.QuietTactic
import Derived.BigQuiet
import Derived.Test.YtlknhbcambdccaaK25
import Derived.Deep.CutRange
namespace Go.Proofs.Ytlknhbcambdccaa
open Go.RowKit
namespace Sl
open Bu

theorem DuoO.nbr {w0 : World} {x c b r : Nat} {own own2 : Own?} {C : Ca} {N : Nat} {L L' : List Blk} {q : List RS} {A A' : Option Addr} {cG c' : Nat} {O O' : List Blk} {Ao Ao' : Option Addr} {co co' : Nat} {W W' : World} (h : DuoO w0 ⟨x, 2, none⟩ x c b r own own2 C N L q A cG O Ao co W)
    (hos : W'.os = W.os ∧ W'.tape = W.tape ∧ W'.output = W.output) (hsz : W.heap.size ≤ W'.heap.size) (hk : ∀ z, z < W.heap.size → z ≠ x → z ≠ b → (∀ g, Ao.map (·.block) = some g → z ≠ g) → W'.heap[z]? = W.heap[z]?)
    (hx : W'.heap[x]? = some (.cells #[.pointer (some ⟨b, 0, none⟩), .pointer (some ⟨c, 0, none⟩), .int .i64 (N : Int), .slice A' L'.length c', .pointer (some ⟨r, 0, none⟩), .slice Ao' O'.length co'] 72 (0, 0)))
    (hB : BuL W' b N L') (hA : (A' = A ∧ c' = cG ∧ L' = L ∧ ∀ g, A.map (·.block) = some g → Ao.map (·.block) ≠ some g) ∨ Bu.Own W' W.heap.size A' c' L') (hO : Bu.Own W' w0.heap.size Ao' co' O') (hOb : ∀ g, Ao'.map (·.block) = some g → W.heap.size ≤ g ∨ Ao.map (·.block) = some g)
    (hok : CaOk C N L') (hsub : SubO O' L' C.order C.sl) (hnd : O'.Nodup) (hAo : ∀ g, Ao.map (·.block) = some g → w0.heap.size ≤ g) :
    DuoO w0 ⟨x, 2, none⟩ x c b r own own2 C N L' q A' c' O' Ao' co' W' := by
  obtain ⟨Ac, capc, Rc, hcc⟩ := h.prog.held.at_
  have hbo := hcc.ownB
  have hxl := lt_of_heap h.wrld
  have hs0 := h.prog.below.size
  have hfo : ∀ z, W.heap.size ≤ z → own z = none ∧ own2 z = none := fun z hz => ⟨Classical.byContradiction fun e => by have := h.prog.held.fresh z e; omega, Classical.byContradiction fun e => by have := h.fr2 z e; omega⟩
  have hob : ∀ z, own z ≠ none → ∀ g, Ao.map (·.block) = some g → z ≠ g := fun z hz g hg e => by have := (h.oth.2.2 g hg).2.1; rw [← e] at this; exact hz this
  have hob2 : ∀ z, own2 z ≠ none → ∀ g, Ao.map (·.block) = some g → z ≠ g := fun z hz g hg e => by have := (h.oth.2.2 g hg).2.2.1; rw [← e] at this; exact hz this
  have hb0 : w0.heap.size ≤ b := Nat.le_of_not_lt fun e => by have := h.prog.out b e; rw [hbo] at this; cases this
  have hb2 : own2 b = none := h.dis b (by rw [hbo]; simp)
  have hcs : ∀ z, own z ≠ none → z ≠ b → z < W.heap.size → W'.heap[z]? = W.heap[z]? := fun z hz hzb hl => hk z hl (fun e => hz (by rw [e]; exact h.xnew.2.1)) hzb (hob z hz)
  have hoa := hO.at
  refine { prog := ⟨⟨⟨Ac, capc, Rc, hcc.same hcs (fun _ _ _ => rfl) rfl⟩, hB, hok, fun k hk => Nat.lt_of_lt_of_le (h.prog.held.fresh k hk) hsz⟩, ⟨hos.1.trans h.prog.below.os, hos.2.1.trans h.prog.below.tape, hos.2.2.trans h.prog.below.output, Nat.le_trans hs0 hsz, fun z hz => ?_⟩, h.prog.out⟩, ref := h.ref.same hsz fun k hk0 hl => ⟨hk k hl (fun e => hk0 (by rw [e]; exact h.xnew.2.2)) (fun e => hk0 (by rw [e]; exact hb2)) (hob2 k hk0), rfl⟩, refq := h.refq, fr2 := fun k hk => Nat.lt_of_lt_of_le (h.fr2 k hk) hsz, out2 := h.out2, dis := h.dis, wrld := hx, xnew := h.xnew, st := ?_, oth := ⟨hoa.1, own_nc hO, fun g hg => ?_⟩, sub := hsub, nd := hnd, oo := hO }
  · refine (hk z (by omega) (by have := h.xnew.1; omega) (by omega) fun g hg e => ?_).trans (h.prog.below.block z hz)
    have := hAo g hg; omega
  · rcases hA with ⟨rfl, rfl, rfl, hne⟩ | hA
    · by_cases hL : L' = []
      · have := h.st.1.len
        subst hL
        exact ⟨⟨this.1, this.2, fun j x hx => by simp at hx⟩, fun h => absurd rfl h⟩
      · refine ⟨h.st.1.keep hsz fun g hg hl => ?_, fun hL g hg => ?_⟩
        · obtain ⟨k1, k2, k3, k4⟩ := h.st.2 hL g hg
          exact hk g k1 k4 (fun e => by rw [e, hbo] at k2; cases k2) fun g' hg' e => hne g hg (by rw [e]; exact hg')
        · obtain ⟨k1, k2, k3, k4⟩ := h.st.2 hL g hg
          exact ⟨by omega, k2, k3, k4⟩
    · obtain ⟨ha, hb⟩ := hA.at
      refine ⟨ha, fun _ g hg => ?_⟩
      obtain ⟨k1, k2⟩ := hb g hg
      exact ⟨k2, (hfo g k1).1, (hfo g k1).2, by omega⟩
  · obtain ⟨k1, k2⟩ := hoa.2 g hg
    rcases hOb g hg with h1 | h1
    · exact ⟨k2, (hfo g h1).1, (hfo g h1).2, by omega⟩
    · obtain ⟨m1, m2, m3, m4⟩ := h.oth.2.2 g h1
      exact ⟨by omega, m2, m3, m4⟩

theorem ok_delO {O L : List Blk} {C : Ca} {N : Nat} {z : Blk} (H : CaOk C N L) (h : SubO O L C.order C.sl) (hz : z ∈ O) : CaOk C N (delB L z) :=
  ⟨H.sz, H.od, H.kp, H.fit, H.st.del, H.asc, fun y hy => mem_delB.2 ⟨H.giv y hy, fun e => (h z hz).2 y hy e.symm⟩, H.len, H.emp⟩
theorem sub_delO {O L : List Blk} {o : Nat} {sl : List Slb} (h : SubO O L o sl) (hnd : O.Nodup) {k : Nat} {z : Blk} (hz : O[k]? = some z) : SubO (O.eraseIdx k) (delB L z) o sl := fun y hy => by
  have hm := List.mem_of_mem_eraseIdx hy
  refine ⟨mem_delB.2 ⟨(h y hm).1, fun e => ?_⟩, (h y hm).2⟩
  obtain ⟨j, hj⟩ := List.mem_iff_getElem?.1 hy
  rw [List.getElem?_eraseIdx] at hj
  obtain ⟨hk, hke⟩ := List.getElem?_eq_some_iff.1 hz
  split at hj
  · next hlt =>
    obtain ⟨hj1, hj2⟩ := List.getElem?_eq_some_iff.1 hj
    exact List.pairwise_iff_getElem.1 hnd j k hj1 hk hlt (by rw [hj2, hke, e])
  · next hlt =>
    obtain ⟨hj1, hj2⟩ := List.getElem?_eq_some_iff.1 hj
    exact List.pairwise_iff_getElem.1 hnd k (j + 1) hk hj1 (by omega) (by rw [hj2, hke, e])
theorem ok_putO {L L' : List Blk} {C : Ca} {N n p : Nat} (H : CaOk C N L) (ha : allocB N L n = some (p, L')) : CaOk C N L' :=
  ⟨H.sz, H.od, H.kp, H.fit, alloc_st H.st ha, H.asc, fun y hy => by rw [put_is ha]; exact mem_putB.2 (.inr (H.giv y hy)), H.len, H.emp⟩
theorem new_putO {L L' : List Blk} {N n p : Nat} (hS : St N L) (ha : allocB N L n = some (p, L')) : (p, n) ∉ L ∧ (p, n) ∈ L' := by
  obtain ⟨_, _, _, _, hin, hf, _⟩ := alloc_found hS ha
  have hfr := (freeB_iff hS.inb hin.2.1).1 hf
  have hpp := pow_pos2 n
  refine ⟨fun h => ?_, by rw [put_is ha]; exact mem_putB.2 (.inl rfl)⟩
  rcases disj_of hS.inb hin hfr h with h1 | h1
  · have h1 : p + 2 ^ n ≤ p := h1; omega
  · have h1 : p + 2 ^ n ≤ p := h1; omega
theorem sub_putO {O L L' : List Blk} {C : Ca} {N n p : Nat} (H : CaOk C N L) (h : SubO O L C.order C.sl) (ha : allocB N L n = some (p, L')) : SubO (O ++ [(p, n)]) L' C.order C.sl := fun z hz => by
  have hn := new_putO H.st ha
  rcases List.mem_append.1 hz with hz | hz
  · exact ⟨by rw [put_is ha]; exact mem_putB.2 (.inr (h z hz).1), (h z hz).2⟩
  · rw [List.mem_singleton] at hz
    subst hz
    exact ⟨hn.2, fun y hy e => hn.1 (by rw [e]; exact H.giv y hy)⟩
theorem nd_putO {O L L' : List Blk} {o N n p : Nat} {sl : List Slb} (hS : St N L) (h : SubO O L o sl) (hnd : O.Nodup) (ha : allocB N L n = some (p, L')) : (O ++ [(p, n)]).Nodup := by
  rw [List.nodup_append]
  refine ⟨hnd, List.nodup_cons.2 ⟨by simp, List.nodup_nil⟩, fun a ha2 b hb e => ?_⟩
  rw [List.mem_singleton] at hb
  subst hb; subst e
  exact (new_putO hS ha).1 (h _ ha2).1
theorem len_O {O L : List Blk} {o N : Nat} {sl : List Slb} (hS : St N L) (h : SubO O L o sl) (hnd : O.Nodup) : O.length ≤ 2048 := by
  have h1 : O.length ≤ L.length := hnd.length_le_of_subset fun z hz => (h z hz).1
  have := st_len hS
  omega
end Sl
end Go.Proofs.Ytlknhbcambdccaa
namespace Go.Proofs.Ytlknhbcambdccaa
open Go.RowKit
namespace Sl
open Bu

theorem four_nums (n : Int) : ∃ U k : Nat, IntKind.u64.wrap n = (U : Int) ∧ k < 4 ∧ IntKind.u64.wrap ((U : Int).tmod 4) = (k : Int) ∧ (U : Int) % 4 = (k : Int) ∧ IntKind.u64.wrap (k : Int) = (k : Int) ∧ IntKind.i64.wrap (k : Int) = (k : Int) := by
  obtain ⟨U, k, h1, h2, _, h3, h4, h5, h6⟩ := pick_nums n 4 (by omega) (by omega)
  exact ⟨U, k, h1, h2, h3, h4, h5, h6⟩

theorem Mine.grow {w0 W W' : World} {own : Own?} {c b N : Nat} {C : Ca} {L : List Blk} (h : Mine w0 own c b C N L W) (hg : Grow1 b W W') (hB : BuL W' b N L) : Mine w0 own c b C N L W' ∧ Keeps own own W W' := by
  obtain ⟨A, cap, R, hc⟩ := h.held.at_
  have hK : Keeps own own W W' := Keeps.of_grow hg (by rw [hc.ownB]; simp)
  exact ⟨h.keeps ⟨⟨A, cap, R, hc.same (fun k _ hkb hl => hg.block k hl hkb) (fun _ _ _ => rfl) rfl⟩, hB, h.held.ok, h.held.fresh.keeps hK⟩ hK, hK⟩
theorem DuoO.grow {w0 : World} {x c b r : Nat} {own own2 : Own?} {C : Ca} {N : Nat} {L : List Blk} {q : List RS} {A : Option Addr} {cG : Nat} {O : List Blk} {Ao : Option Addr} {co : Nat} {W W' : World} (h : DuoO w0 ⟨x, 2, none⟩ x c b r own own2 C N L q A cG O Ao co W) (hg : Grow1 b W W') (hB : BuL W' b N L) : DuoO w0 ⟨x, 2, none⟩ x c b r own own2 C N L q A cG O Ao co W' := by
  obtain ⟨hM, hK⟩ := h.prog.grow hg hB
  obtain ⟨h1, h2⟩ := (h.refS1 hK).same (Below.refl W'.heap.size W')
  exact h.next hM hK h1 h2 h.refq h.sub
theorem DuoO.ne_b {w0 : World} {x c b r : Nat} {own own2 : Own?} {C : Ca} {N : Nat} {L : List Blk} {q : List RS} {A : Option Addr} {cG : Nat} {O : List Blk} {Ao : Option Addr} {co : Nat} {W : World} (h : DuoO w0 ⟨x, 2, none⟩ x c b r own own2 C N L q A cG O Ao co W) : x ≠ b ∧ (∀ g, Ao.map (·.block) = some g → g ≠ b) ∧ b < W.heap.size := by
  obtain ⟨A1, cap, R, hc⟩ := h.prog.held.at_
  refine ⟨fun e => ?_, fun g hg e => ?_, h.prog.held.bu.lt⟩
  · have := h.xnew.2.1; rw [e, hc.ownB] at this; cases this
  · have := (h.oth.2.2 g hg).2.1; rw [e, hc.ownB] at this; cases this

set_option maxRecDepth 100000 in
set_option maxHeartbeats 8000000 in
theorem nb_none (w0 : World) (x b r N : Nat) (n : Int) (W : World) {c : Nat} {own own2 : Own?} {C : Ca} {L : List Blk} {q : List RS} {A : Option Addr} {cG : Nat} {O : List Blk} {Ao : Option Addr} {co : Nat} (h : DuoO w0 ⟨x, 2, none⟩ x c b r own own2 C N L q A cG O Ao co W) (hn : n.tmod 2 = 0 ∨ O.length = 0) (U k : Nat) (hU : IntKind.u64.wrap n = (U : Int)) (hk4 : k < 4) (htm : IntKind.u64.wrap ((U : Int).tmod 4) = (k : Int)) (hem : (U : Int) % 4 = (k : Int)) (hk64 : IntKind.u64.wrap (k : Int) = (k : Int)) (hki : IntKind.i64.wrap (k : Int) = (k : Int)) (ha : allocB N L k = none) :
    Calls Try.prog 59 #[.pointer (some ⟨x, 0, none⟩), .int .i64 n] W fun e W' => e = .returned (.bool true) ∧ Wld w0 x b r N W' := by
  obtain ⟨x0, x1, x2, x3, x4, x5, _⟩ := six_cells h.wrld
  have hxl := lt_of_heap h.wrld
  obtain ⟨ln, hln⟩ : ∃ ln, ln = L.length := ⟨_, rfl⟩
  obtain ⟨on, hon⟩ : ∃ on, on = O.length := ⟨_, rfl⟩
  rw [← hln] at x3
  rw [← hon] at x5
  have hon2 : on ≤ 2048 := by rw [hon]; exact len_O h.prog.held.ok.st h.sub h.nd
  rw [← hon] at hn
  have HX := Lib.hid (And.intro h (And.intro hln hon))
  have hcap : on ≤ co := by have := h.oth.1.len; omega
  have hcm := h.oth.1.len.2
  unfold maxLen at hcm
  have hS := h.prog.held.ok.st
  have hA := h.st.1
  have eU : (0 : Int) ≤ (U : Int) := by omega
  have HAL := Lib.hid ha
  have hRC := allocR_ok W N A cG L k (by omega) hA hS
  unfold GiveR at hRC
  rw [ha] at hRC
  rw [← hln] at hRC
  have HR := Lib.hid hRC
  clear h hln hon hS hA hRC ha
  have hdec : ((n.tmod 2 != 0) = false) ∨ ((n.tmod 2 != 0) = true ∧ decide (0 < on) = false ∧ decide ((0 : Int) < (on : Int)) = false) := by
    by_cases e : n.tmod 2 = 0
    · left; rw [e]; rfl
    · right; exact ⟨by rw [bne_iff_ne]; exact e, decide_eq_false (by omega), decide_eq_false (by omega)⟩
  clear hn
  rcases hdec with hd | ⟨hd, hd0, hd1⟩
  all_goals
    go_enter Try.func59, Try.ntmps59
    go_upto_region 8 with (fail)
    clear hd
    (try clear hd0 hd1)
    go_wp2_with (go_at_call 81; fail)
    refine HR.out.mono ?_
    rintro _ W1 ⟨rfl, hb1⟩
    replace x0 := (hb1.cell (p := ⟨x, 0, none⟩) hxl).trans x0
    have hd1 := HX.out.1.below hb1
    have hxl1 : x < W1.heap.size := Nat.lt_of_lt_of_le hxl hb1.size
    have HD1 := Lib.hid hd1
    clear hd1 hb1 x1 x2 x3 x4 x5
    go_wp2_with (go_at_call 39; fail)
    have hd2 := HD1.out.below (below_box W1 (.cells #[.int .i64 (N : Int), .slice A ln cG] 46))
    refine (al_none hd2.prog.held.bu (by omega) HAL.out).mono ?_
    rintro _ W2 ⟨rfl, hB2, hg2⟩
    have hd3 := hd2.grow hg2 hB2
    have HD3 := Lib.hid hd3
    clear hd2 hd3 hB2 hg2
    go_wp2_with (fail)
    go_ret
    exact ⟨rfl, _, _, _, _, _, _, _, _, _, _, _, HD3.out⟩
set_option maxRecDepth 100000 in
set_option maxHeartbeats 8000000 in
theorem nb_some (w0 : World) (x b r N : Nat) (n : Int) (W : World) {c : Nat} {own own2 : Own?} {C : Ca} {L : List Blk} {q : List RS} {A : Option Addr} {cG : Nat} {O : List Blk} {Ao : Option Addr} {co : Nat} (h : DuoO w0 ⟨x, 2, none⟩ x c b r own own2 C N L q A cG O Ao co W) (hn : n.tmod 2 = 0 ∨ O.length = 0) (U k p : Nat) (D : List Blk) (hU : IntKind.u64.wrap n = (U : Int)) (hk4 : k < 4) (htm : IntKind.u64.wrap ((U : Int).tmod 4) = (k : Int)) (hem : (U : Int) % 4 = (k : Int)) (hk64 : IntKind.u64.wrap (k : Int) = (k : Int)) (hki : IntKind.i64.wrap (k : Int) = (k : Int)) (ha : allocB N L k = some (p, D)) :
    Calls Try.prog 59 #[.pointer (some ⟨x, 0, none⟩), .int .i64 n] W fun e W' => e = .returned (.bool true) ∧ Wld w0 x b r N W' := by
  obtain ⟨x0, x1, x2, x3, x4, x5, _⟩ := six_cells h.wrld
  have hxl := lt_of_heap h.wrld
  obtain ⟨ln, hln⟩ : ∃ ln, ln = L.length := ⟨_, rfl⟩
  obtain ⟨on, hon⟩ : ∃ on, on = O.length := ⟨_, rfl⟩
  rw [← hln] at x3
  rw [← hon] at x5
  have hon2 : on ≤ 2048 := by rw [hon]; exact len_O h.prog.held.ok.st h.sub h.nd
  rw [← hon] at hn
  have HX := Lib.hid (And.intro h (And.intro hln hon))
  have hcap : on ≤ co := by have := h.oth.1.len; omega
  have hcm := h.oth.1.len.2
  unfold maxLen at hcm
  have hS := h.prog.held.ok.st
  have hA := h.st.1
  have eU : (0 : Int) ≤ (U : Int) := by omega
  have HAL := Lib.hid ha
  have hRC := allocR_ok W N A cG L k (by omega) hA hS
  unfold GiveR at hRC
  rw [ha] at hRC
  rw [← hln] at hRC
  have HR := Lib.hid hRC
  clear h hln hon hS hA hRC ha
  have hdec : ((n.tmod 2 != 0) = false) ∨ ((n.tmod 2 != 0) = true ∧ decide (0 < on) = false ∧ decide ((0 : Int) < (on : Int)) = false) := by
    by_cases e : n.tmod 2 = 0
    · left; rw [e]; rfl
    · right; exact ⟨by rw [bne_iff_ne]; exact e, decide_eq_false (by omega), decide_eq_false (by omega)⟩
  clear hn
  rcases hdec with hd | ⟨hd, hd0, hd1⟩
  all_goals
    go_enter Try.func59, Try.ntmps59
    go_upto_region 8 with (fail)
    clear hd
    (try clear hd0 hd1)
    go_wp2_with (go_at_call 81; fail)
    refine HR.out.mono ?_
    rintro _ W1 ⟨⟨A5, c5, rfl, ho5⟩, hb1⟩
    obtain ⟨dn, hdn⟩ : ∃ dn, dn = D.length := ⟨_, rfl⟩
    rw [← hdn]
    replace x0 := (hb1.cell (p := ⟨x, 0, none⟩) hxl).trans x0
    have hd1 := HX.out.1.below hb1
    have HD1 := Lib.hid hd1
    have H1 := Lib.hid (And.intro hb1 (And.intro ho5 hdn))
    have hs1 : W.heap.size ≤ W1.heap.size := hb1.size
    have hxl1 : x < W1.heap.size := Nat.lt_of_lt_of_le hxl hs1
    clear hd1 hb1 ho5 hdn x1 x2 x3 x4 x5
    go_wp2_with (go_at_call 39; fail)
    obtain ⟨V, hV⟩ : ∃ V, V = W1.alloc (.cells #[.int .i64 (N : Int), .slice A5 dn c5] 46) := ⟨_, rfl⟩
    have hbV : Below W1.heap.size W1 V := by rw [hV]; exact below_box W1 _
    have hsV : V.heap.size = W1.heap.size + 1 := by rw [hV]; simp
    have hzV : V.heap[W1.heap.size]? = some (.cells #[.int .i64 (N : Int), .slice A5 dn c5] 46 (0, 0)) := by rw [hV, heapAlloc, if_pos rfl]
    rw [← hV]
    have hd2 := HD1.out.below hbV
    refine (al_some hd2.prog.held.bu (by omega) HAL.out).mono ?_
    rintro _ W2 ⟨rfl, hB2, hg2⟩
    obtain ⟨hxb, hob, hbl⟩ := hd2.ne_b
    have hbl1 : b < W1.heap.size := (HD1.out.ne_b).2.2
    have hs2 : V.heap.size ≤ W2.heap.size := hg2.size
    have hx2 := (hg2.block x (by omega) hxb).trans hd2.wrld
    rw [← HX.out.2.2] at hx2
    have hz2 := (hg2.block W1.heap.size (by omega) (by omega)).trans hzV
    obtain ⟨z0, z1, _, _⟩ := Bu.two_cells hz2
    obtain ⟨x0, x1, x2, x3, x4, x5, _⟩ := six_cells hx2
    have xf2 : W2.frozen? ⟨x, 2, none⟩ = false := frozen_of_plain hx2 2
    have xf3 : W2.frozen? ⟨x, 3, none⟩ = false := frozen_of_plain hx2 3
    have xf5 : W2.frozen? ⟨x, 5, none⟩ = false := frozen_of_plain hx2 5
    have hxl2 : x < W2.heap.size := by omega
    have H2 := Lib.hid (And.intro hd2 (And.intro hB2 (And.intro hg2 (And.intro hx2 (And.intro hbV hsV)))))
    clear hd2 hB2 hg2 hx2 hbV hz2 hzV hV hsV hxb hob hbl
    have hpp : ((p : Int) != (p : Int)) = false := by simp
    go_upto_region 15 with (fail)
    obtain ⟨W3, hW3⟩ : ∃ W3, W3 = (W2.setCell ⟨x, 2, none⟩ (.int .i64 (N : Int))).setCell ⟨x, 3, none⟩ (.slice A5 dn c5) := ⟨_, rfl⟩
    have hs3 : W3.heap.size = W2.heap.size := by rw [hW3, setCell_size, setCell_size]
    have hf3 : ∀ z, z ≠ x → W3.heap[z]? = W2.heap[z]? := fun z hz => by rw [hW3]; exact (setCell_far _ _ _ _ hz).trans (setCell_far _ _ _ _ hz)
    have hx3 : W3.heap[x]? = some (.cells #[.pointer (some ⟨b, 0, none⟩), .pointer (some ⟨c, 0, none⟩), .int .i64 (N : Int), .slice A5 dn c5, .pointer (some ⟨r, 0, none⟩), .slice Ao on co] 72 (0, 0)) := by
      rw [hW3]
      exact setCell_at _ _ 3 _ _ _ (setCell_at _ _ 2 _ _ _ H2.out.2.2.2.1)
    have HW3 := Lib.hid hW3
    rw [← hW3]
    clear x0 x1 x2 x3 x4 x5 z0 z1 xf2 xf3 xf5
    obtain ⟨_, _, _, _, _, x5, _⟩ := six_cells hx3
    have xf5 : W3.frozen? ⟨x, 5, none⟩ = false := frozen_of_plain hx3 5
    have hd2 := H2.out.1
    have hgo : ∀ g, g < V.heap.size → g ≠ b → g ≠ x → W3.heap[g]? = V.heap[g]? := fun g h1 h2 h3 => (hf3 g h3).trans (H2.out.2.2.1.block g h1 h2)
    have hown : W3.ownsRow w0.heap.size 126 2 (.slice Ao on co) on (cellsL O) := by
      rw [show on = O.length from HX.out.2.2]
      exact hd2.toDuo.ownO hd2.oo fun g h1 h2 h3 h4 => hgo g h1 (fun e => by obtain ⟨A1, cp1, R1, hc1⟩ := hd2.prog.held.at_; rw [e, hc1.ownB] at h2; cases h2) h4
    have hAog : ∀ g, (Value.slice Ao on co).ownBlock = some g → w0.heap.size ≤ g ∧ g < W.heap.size ∧ g ≠ x := fun g hg => ⟨(hown.lt g hg).1, (HX.out.1.oth.2.2 g (own_block hg)).1, (HX.out.1.oth.2.2 g (own_block hg)).2.2.2⟩
    have hw0 : w0.heap.size ≤ W3.heap.size := by have := HX.out.1.prog.below.size; have := H2.out.2.2.2.2.2; omega
    obtain ⟨i0, y0, hi0, hz0, hz1, hz2, hz3⟩ := info_open block_info
    have HG := Lib.hid (And.intro hs3 (And.intro hf3 (And.intro hx3 (And.intro hgo (And.intro hown hAog)))))
    have HNW := Lib.hid (two_new W3 (.int .i64 (p : Int)) (.int .i64 (k : Int)) 126)
    have hx3l : x < W3.heap.size := by omega
    have x5a : (W3.alloc (.cells #[.int .i64 (p : Int), .int .i64 (k : Int)] 126)).cell? ⟨x, 5, none⟩ = some (.slice Ao on co) := (World.cell?_alloc_lt W3 _ _ hx3l).trans x5
    have xf5a : (W3.alloc (.cells #[.int .i64 (p : Int), .int .i64 (k : Int)] 126)).frozen? ⟨x, 5, none⟩ = false := (World.frozen?_alloc_old W3 _ _ (Nat.ne_of_lt hx3l)).trans xf5
    clear hs3 hf3 hx3 hW3 hd2 hgo hown hAog
    go_wp2_with (
      (at_builtin; refine wpList_append_lies _ rfl (.tmp 129) (.tmp 133) _ rfl w0.heap.size 126 i0 y0 2 16 Try.underlying44 hi0 hz0 hz1 hz2 hz3 (by omega) (.slice Ao on co) on (cellsL O) rfl (HG.out.2.2.2.2.1.alloc _) ⟨W3.heap.size, 0, none⟩ 1 1 [.int .i64 (p : Int), .int .i64 (k : Int)] rfl rfl HNW.out (by simp [Value.oneCell']) (by omega) (by unfold maxLen; omega) (by omega) (by rw [World.size_alloc]; omega) (W3.heap.size + 1) (by simp) ?_
       intro g6 cap6 w6 hown6 hgrow6 hat6 hlt6
       have x6 : w6.cell? ⟨x, 5, none⟩ = some (.slice Ao on co) := (hgrow6.cell_far ⟨x, 5, none⟩ (by rw [World.size_alloc]; show x < _; omega) (fun e => (HG.out.2.2.2.2.2 x e.symm).2.2 rfl)).trans x5a
       have xf6 : w6.frozen? ⟨x, 5, none⟩ = false := (hgrow6.frozen_far ⟨x, 5, none⟩ (by rw [World.size_alloc]; show x < _; omega) (fun e => (HG.out.2.2.2.2.2 x e.symm).2.2 rfl)).trans xf5a
       have H6 := Lib.hid (And.intro hown6 (And.intro hgrow6 (And.intro hat6 hlt6)))
       clear hown6 hgrow6 hat6 hlt6))
    go_ret
    obtain ⟨hown6, hgrow6, hat6, hlt6⟩ := H6.out
    have hW3e := HW3.out
    obtain ⟨hs3, hf3, hx3, hgo, hown, hAog⟩ := HG.out
    obtain ⟨hb1, ho5, hdn⟩ := H1.out
    obtain ⟨hd2, hB2, hg2, hx2, hbV, hsV⟩ := H2.out
    have hs6 : W3.heap.size + 1 ≤ w6.heap.size := by have := hgrow6.size; rw [World.size_alloc] at this; exact this
    have hbx := (HX.out.1.ne_b).1
    have hf6 : ∀ z, z < W3.heap.size → z ≠ x → (∀ g, (Value.slice Ao on co).ownBlock = some g → z ≠ g) → (w6.setCell ⟨x, 5, none⟩ (.slice (some ⟨g6, 0, none⟩) (on + 1) cap6)).heap[z]? = W3.heap[z]? := fun z h1 h2 h3 =>
      (setCell_far _ _ _ _ h2).trans ((hgrow6.block z (by rw [World.size_alloc]; omega) (fun e => h3 z e.symm rfl)).trans (alloc_old _ _ _ h1))
    have hbo : ∀ g, (Value.slice Ao on co).ownBlock = some g → b ≠ g := fun g hg e => (HX.out.1.ne_b).2.1 g (own_block hg) e.symm
    have hnb : Ao.map (·.block) ≠ none → ∀ g, Ao.map (·.block) = some g → (Value.slice Ao on co).ownBlock = some g := fun _ g hg => by
      cases Ao with
      | none => cases hg
      | some a => injection hg with hg; rw [← hg]; rfl
    have hoo : Bu.Own (w6.setCell ⟨x, 5, none⟩ (.slice (some ⟨g6, 0, none⟩) (on + 1) cap6)) w0.heap.size (some ⟨g6, 0, none⟩) cap6 (O ++ [(p, k)]) := by
      unfold Bu.Own
      rw [cellsL_add, List.length_append, List.length_singleton, ← HX.out.2.2]
      refine row_sameB hown6 fun g hg => setCell_far _ _ _ _ fun e => ?_
      have hg : g6 = g := by injection hg
      rcases hat6 with h1 | h1
      · exact (hAog g6 h1).2.2 (by rw [hg]; exact e)
      · have e : g = x := e
        omega
    refine ⟨rfl, c, own, own2, C, D, q, A5, c5, O ++ [(p, k)], some ⟨g6, 0, none⟩, cap6, HX.out.1.nbr (W' := w6.setCell ⟨x, 5, none⟩ (.slice (some ⟨g6, 0, none⟩) (on + 1) cap6)) ⟨?_, ?_, ?_⟩ ?_ ?_ ?_ ?_ (.inr ?_) hoo ?_ (ok_putO HX.out.1.prog.held.ok HAL.out) (sub_putO HX.out.1.prog.held.ok HX.out.1.sub HAL.out) (nd_putO HX.out.1.prog.held.ok.st HX.out.1.sub HX.out.1.nd HAL.out) ?_⟩
    · exact hgrow6.os.trans ((by rw [hW3e]; rfl : W3.os = W2.os).trans (hg2.os.trans (hbV.os.trans hb1.os)))
    · exact hgrow6.tape.trans ((by rw [hW3e]; rfl : W3.tape = W2.tape).trans (hg2.tape.trans (hbV.tape.trans hb1.tape)))
    · exact hgrow6.output.trans ((by rw [hW3e]; rfl : W3.output = W2.output).trans (hg2.output.trans (hbV.output.trans hb1.output)))
    · rw [setCell_size]; omega
    · intro z h1 h2 h3 h4
      exact (hf6 z (by omega) h2 fun g hg => h4 g (own_block hg)).trans ((hgo z (by omega) h3 h2).trans ((hbV.block z (by omega)).trans (hb1.block z h1)))
    · have h6 : w6.heap[x]? = W3.heap[x]? := (hgrow6.block x (by rw [World.size_alloc]; omega) (fun e => (hAog x e.symm).2.2 rfl)).trans (alloc_old _ _ _ hx3l)
      have := setCell_at _ _ 5 _ _ (.slice (some ⟨g6, 0, none⟩) (on + 1) cap6) (h6.trans hx3)
      rw [this, List.length_append, List.length_singleton, ← HX.out.2.2, ← hdn]; rfl
    · refine hB2.keep ((hf6 b (by omega) hbx.symm hbo).trans (hf3 b hbx.symm))
    · refine row_sameB ho5 fun g hg => ?_
      have h7 := ho5.lt g hg
      have hgV : V.heap[g]? = W1.heap[g]? := hbV.block g (by omega)
      have hg3 : W3.heap[g]? = V.heap[g]? := hgo g (by omega) (by have := (HX.out.1.ne_b).2.2; omega) (by omega)
      exact (hf6 g (by omega) (by omega) fun g' hg' => by have := (hAog g' hg').2.1; omega).trans (hg3.trans hgV)
    · intro g hg
      have hg : g6 = g := by injection hg
      rcases hat6 with h1 | h1
      · exact .inr (by rw [← hg]; exact own_block h1)
      · exact .inl (by omega)
    · intro g hg
      exact (hAog g (hnb (by rw [hg]; simp) g hg)).1
end Sl
end Go.Proofs.Ytlknhbcambdccaa
namespace Go.Proofs.Ytlknhbcambdccaa
open Go.RowKit
namespace Sl
open Bu
def opT63 : Op := .load 44 (.tmp 63)
attribute [local go_sem] opT63
def opT70 : Op := .load 44 (.tmp 70)
attribute [local go_sem] opT70

theorem step_append_blkL {w : World} {ops : Array Oper} {o : Oper} {a : Act} {K : Act → World → Prop} {Q : Exit → Act → World → Prop} {E : Prop} (hgd : o.guard = none) (s x : Operand)
    (ho : o.op = .call { callee := .builtin .append, args := #[s, x], argTypes := #[44, 44] })
    (base : Nat) (A0 : Option Addr) (n c0 : Nat) (X : List Blk) (hn : X.length = n) (hs : a.eval s = .slice A0 n c0) (hown : Bu.Own w base A0 c0 X)
    (A : Option Addr) (m c : Nat) (M : List Blk) (hm : M.length = m) (hx : a.eval x = .slice A m c) (hM : BlkAt w A c M) (hnc : A = none → c = 0) (Z : List Blk) (p : Nat) (hZ : X ++ M = Z) (hp : Z.length = p) (hlen : n + m ≤ 100000) (hbase : base ≤ w.heap.size)
    (h : ∀ A' c' w', Bu.Own w' base A' c' Z → w.grownBy w' (Value.slice A0 X.length c0).ownBlock → K (a.put o.dst (.slice A' p c')) w') :
    if Region.wanted o (yielded ops a.tmps) = true then Oper.wp Try.prog o a w K Q else E := by
  subst hn; subst hm; subst hZ; subst hp
  exact step_append_blk hgd s x ho base _ X hs hown A c M hx hM hnc hlen hbase h

/-- What the line that asks the reference reads. -/
def NbS (w : World) (x N ln cG g p m : Nat) (A : Option Addr) (w' : World) : Prop :=
  Below w.heap.size w w' ∧ w'.cell? ⟨x, 2, none⟩ = some (.int .i64 (N : Int)) ∧ w'.cell? ⟨x, 3, none⟩ = some (.slice A ln cG) ∧ w'.cell? ⟨g, 0, none⟩ = some (.int .i64 (p : Int)) ∧ w'.cell? ⟨g, 1, none⟩ = some (.int .i64 (m : Int))
theorem NbS.of {w : World} {x N ln cG g p m : Nat} {A : Option Addr} {V : World} (h : NbS w x N ln cG g p m A w) (hx : x < w.heap.size) (hg : g < w.heap.size) (hb : Below w.heap.size w V) : NbS w x N ln cG g p m A V := by
  obtain ⟨_, a0, a1, a2, a3⟩ := h
  exact ⟨hb, (hb.cell (p := ⟨x, 2, none⟩) hx).trans a0, (hb.cell (p := ⟨x, 3, none⟩) hx).trans a1, (hb.cell (p := ⟨g, 0, none⟩) hg).trans a2, (hb.cell (p := ⟨g, 1, none⟩) hg).trans a3⟩

set_option maxRecDepth 100000 in
set_option maxHeartbeats 8000000 in
theorem nb_give (w0 : World) (x b r N : Nat) (n : Int) (W : World) {c : Nat} {own own2 : Own?} {C : Ca} {L : List Blk} {q : List RS} {A : Option Addr} {cG : Nat} {O : List Blk} {Ao : Option Addr} {co : Nat} (h : DuoO w0 ⟨x, 2, none⟩ x c b r own own2 C N L q A cG O Ao co W)
    (hn : n.tmod 2 ≠ 0) (U k p m : Nat) (hz : O[k]? = some (p, m)) (hU : IntKind.u64.wrap n = (U : Int)) (hl64 : IntKind.u64.wrap (O.length : Int) = (O.length : Int)) (htm : IntKind.u64.wrap ((U : Int).tmod (O.length : Int)) = (k : Int)) (hem : (U : Int) % (O.length : Int) = (k : Int)) (hk64 : IntKind.u64.wrap (k : Int) = (k : Int)) (hki : IntKind.i64.wrap (k : Int) = (k : Int)) :
    Calls Try.prog 59 #[.pointer (some ⟨x, 0, none⟩), .int .i64 n] W fun e W' => e = .returned (.bool true) ∧ Wld w0 x b r N W' := by
  obtain ⟨x0, x1, x2, x3, x4, x5, _⟩ := six_cells h.wrld
  have hxl := lt_of_heap h.wrld
  obtain ⟨ln, hln⟩ : ∃ ln, ln = L.length := ⟨_, rfl⟩
  obtain ⟨on, hon⟩ : ∃ on, on = O.length := ⟨_, rfl⟩
  have hS := h.prog.held.ok.st
  have hon2 : on ≤ 2048 := by rw [hon]; exact len_O hS h.sub h.nd
  have hzm : (p, m) ∈ O := List.mem_of_getElem? hz
  have hmL : (p, m) ∈ L := (h.sub _ hzm).1
  have hin := hS.inb _ hmL
  obtain ⟨g, oo, rfl, hgl, d0, d1⟩ := h.oth.1.at hz
  dsimp only at d0 d1
  have hgx := (h.oth.2.2 g rfl)
  have hcap := h.oth.1.len
  have hko := (List.getElem?_eq_some_iff.1 hz).1
  rw [← hln] at x3
  rw [← hon] at x5 hl64 htm hem hcap hko
  have hcm := hcap.2
  unfold maxLen at hcm
  have hcap := hcap.1
  have hodd : (n.tmod 2 != 0) = true := by rw [bne_iff_ne]; exact hn
  have o0 : decide (0 < on) = true := decide_eq_true (by omega)
  have o1 : decide ((0 : Int) < (on : Int)) = true := decide_eq_true (by omega)
  have o2 : (on : Int) ≠ 0 := by omega
  have eU : (0 : Int) ≤ (U : Int) := by omega
  have e0 : (0 : Int) ≤ (k : Int) := by omega
  have e1 : (k : Int) < (on : Int) := by omega
  have hxb := h.ne_b
  have HX := Lib.hid (And.intro h (And.intro hln (And.intro hon (And.intro hz (And.intro hzm (And.intro hmL (And.intro hin (And.intro hgx (And.intro hxb hS)))))))))
  clear h hln hon hz hzm hmL hin hgx hxb hS hn
  go_enter Try.func59, Try.ntmps59
  go_upto_region 4 with (fail)
  obtain ⟨W1, hW1⟩ : ∃ W1, W1 = W.alloc (.cells #[.int .i64 (p : Int), .int .i64 (m : Int)] 126) := ⟨_, rfl⟩
  have hb1 : Below W.heap.size W W1 := by rw [hW1]; exact below_box W _
  have hs1 : W1.heap.size = W.heap.size + 1 := by rw [hW1]; simp
  have hz1 : W1.heap[W.heap.size]? = some (.cells #[.int .i64 (p : Int), .int .i64 (m : Int)] 126 (0, 0)) := by rw [hW1, heapAlloc, if_pos rfl]
  rw [← hW1]
  obtain ⟨X, hX⟩ : ∃ X, X = W.heap.size := ⟨_, rfl⟩
  rw [← hX] at hz1 ⊢
  obtain ⟨a0, a1, _, _⟩ := Bu.two_cells hz1
  have h1 := HX.out.1.below hb1
  obtain ⟨x0, x1, x2, x3, x4, x5, _⟩ := six_cells h1.wrld
  rw [← HX.out.2.1] at x3
  rw [← HX.out.2.2.1] at x5
  have hX1 : X < W1.heap.size := by omega
  have hx1 : x < W1.heap.size := by omega
  obtain ⟨D, hD⟩ : ∃ D, D = delB L (p, m) := ⟨_, rfl⟩
  have hDD : ∀ V, Below W1.heap.size W1 V → Calls Try.prog 85 #[sv N A ln cG, .int .i64 (p : Int), .int .i64 (m : Int)] V fun e w' => (∃ A' c', e = .returned (.tuple #[sv N A' D.length c', .int .i64 0]) ∧ Bu.Own w' V.heap.size A' c' D) ∧ Below W1.heap.size W1 w' ∧ V.heap.size ≤ w'.heap.size ∧ (∀ z, z < V.heap.size → w'.heap[z]? = V.heap[z]?) := by
    intro V hV
    rw [HX.out.2.1]
    refine (dropR_ok V N A cG L (p, m) HX.out.2.2.2.2.2.2.2.2.2.n10 (h1.st.1.below hV) (by have := st_len HX.out.2.2.2.2.2.2.2.2.2; omega) HX.out.2.2.2.2.2.2.1).mono ?_
    rintro e w' ⟨hr, hb⟩
    refine ⟨?_, below_step hV hb (Nat.le_refl _), hb.size, hb.block⟩
    rcases hr with ⟨_, A', c', he, ho⟩ | ⟨hno, _⟩
    · rw [hD]; exact ⟨A', c', he, ho⟩
    · exact absurd HX.out.2.2.2.2.2.1 hno
  have hS0 : NbS W1 x N ln cG X p m A W1 := ⟨Below.refl _ _, x2, x3, a0, a1⟩
  have hSV := fun V (hV : Below W1.heap.size W1 V) => NbS.of hS0 hx1 hX1 hV
  have HD := Lib.hid hDD
  have HY := Lib.hid (And.intro h1 (And.intro hb1 (And.intro hs1 (And.intro hz1 (And.intro hX hD)))))
  clear h1 hb1 hs1 hz1 hX hD hDD hW1 d0 d1 hem htm hk64 hki hU hl64 hodd o0 o1 o2
  go_cut [7, 8] from 43 to 54 (fun v _ wx => ∃ (z : Nat) (A5 : Option Addr) (c5 : Nat), v = .pointer (some ⟨z, 0, none⟩) ∧ wx.heap[z]? = some (.cells #[.int .i64 (N : Int), .slice A5 D.length c5] 46 (0, 0)) ∧ W1.heap.size ≤ z ∧ Bu.Own wx W1.heap.size A5 c5 D ∧ Below W1.heap.size W1 wx)
  case first =>
   go_region_held3 (fun w' => Below W1.heap.size W1 w' ∧ w'.cell? ⟨x, 2, none⟩ = some (.int .i64 (N : Int)) ∧ w'.cell? ⟨x, 3, none⟩ = some (.slice A ln cG) ∧ w'.cell? ⟨X, 0, none⟩ = some (.int .i64 (p : Int)) ∧ w'.cell? ⟨X, 1, none⟩ = some (.int .i64 (m : Int)))
    (first | exact hSV _ (below_drew W1 1) | exact hSV _ ((below_box W1 _).drew) | exact hSV _ hb5 | exact hSV _ (hb5.alloc hs5 _) | exact hSV _ ((hb5.setCell (p := ⟨W1.heap.size, 0, none⟩) (Nat.le_refl _) _).setCell (p := ⟨W1.heap.size, 1, none⟩) (Nat.le_refl _) _) | (trace_state; fail))
    (first | (go_at_call 85; refine (HD.out _ (And.left (by assumption))).mono ?_; rintro _ W5 ⟨⟨A5, c5, rfl, ho5⟩, hb5, hv5, hk5⟩; have hs5 : W1.heap.size ≤ W5.heap.size := hb5.size; (try (have hz5 : W5.heap[W1.heap.size]? = some (.cells #[.int .i64 0, .slice none 0 0] 46 (0, 0)) := (hk5 W1.heap.size (by show W1.heap.size < (W1.alloc _).heap.size; simp)).trans (blk_new W1 _ _ _); obtain ⟨z0, z1, zf0, zf1⟩ := Bu.two_cells hz5; have HZ5 := Lib.hid hz5; clear hz5)); have H5 := Lib.hid (And.intro ho5 (And.intro hv5 hk5)); clear ho5 hv5 hk5))
   all_goals (try go_wp2_with (fail))
   all_goals go_meet
   · exact ⟨W5.heap.size, A5, c5, rfl, by rw [heapAlloc, if_pos rfl], hs5, H5.out.1.alloc _, hb5.alloc hs5 _⟩
   · have hVs : ((W1.alloc (.cells #[.int .i64 0, .slice none 0 0] 46)).drew).heap.size = W1.heap.size + 1 := by show (W1.alloc _).heap.size = _; simp
     have ho := H5.out.1
     rw [hVs] at ho
     refine ⟨W1.heap.size, A5, c5, rfl, two_set HZ5.out _ _, Nat.le_refl _, row_low (row_keep ho fun z h1 h2 => (setCell_far _ _ _ _ (by show z ≠ W1.heap.size; omega)).trans (setCell_far _ _ _ _ (by show z ≠ W1.heap.size; omega))) (Nat.le_succ _), (hb5.setCell (p := ⟨W1.heap.size, 0, none⟩) (Nat.le_refl _) _).setCell (p := ⟨W1.heap.size, 1, none⟩) (Nat.le_refl _) _⟩
  case rest =>
    obtain ⟨z, A5, c5, rfl, hz, hzw, ho5, hbw⟩ := hcut
    obtain ⟨V, rfl⟩ : ∃ V : World, V = wc := ⟨_, rfl⟩
    obtain ⟨z0, z1, _, _⟩ := Bu.two_cells hz
    have h2 := HY.out.1.below hbw
    have hx2 := h2.wrld
    rw [← HX.out.2.1, ← HX.out.2.2.1] at hx2
    clear x0 x1 x2 x3 x4 x5 a0 a1
    obtain ⟨x0, x1, x2, x3, x4, x5, _⟩ := six_cells hx2
    have xf2 : V.frozen? ⟨x, 2, none⟩ = false := frozen_of_plain hx2 2
    have xf3 : V.frozen? ⟨x, 3, none⟩ = false := frozen_of_plain hx2 3
    obtain ⟨dn, hdn⟩ : ∃ dn, dn = D.length := ⟨_, rfl⟩
    rw [← hdn] at z1
    have hV1 : W1.heap.size ≤ V.heap.size := hbw.size
    have H5 := Lib.hid (And.intro hz (And.intro hzw (And.intro ho5 (And.intro hbw (And.intro hx2 (And.intro hdn h2))))))
    clear hz hzw ho5 hbw hx2 hdn h2 hSV hS0
    go_upto_region 6 with (fail)
    obtain ⟨W3, hW3⟩ : ∃ W3, W3 = (V.setCell ⟨x, 2, none⟩ (.int .i64 (N : Int))).setCell ⟨x, 3, none⟩ (.slice A5 dn c5) := ⟨_, rfl⟩
    have hs3 : W3.heap.size = V.heap.size := by rw [hW3, setCell_size, setCell_size]
    have hf3 : ∀ z, z ≠ x → W3.heap[z]? = V.heap[z]? := fun z hz => by rw [hW3]; exact (setCell_far _ _ _ _ hz).trans (setCell_far _ _ _ _ hz)
    have hx3 : W3.heap[x]? = some (.cells #[.pointer (some ⟨b, 0, none⟩), .pointer (some ⟨c, 0, none⟩), .int .i64 (N : Int), .slice A5 dn c5, .pointer (some ⟨r, 0, none⟩), .slice (some ⟨g, oo, none⟩) on co] 72 (0, 0)) := by
      rw [hW3]
      exact setCell_at _ _ 3 _ _ _ (setCell_at _ _ 2 _ _ _ H5.out.2.2.2.2.1)
    rw [← hW3]
    have HW3 := Lib.hid hW3
    clear x0 x1 x2 x3 x4 x5 z0 z1 xf2 xf3 hW3
    obtain ⟨x0, _, _, _, _, x5, _⟩ := six_cells hx3
    have xf5 : W3.frozen? ⟨x, 5, none⟩ = false := frozen_of_plain hx3 5
    have hxl3 : x < W3.heap.size := by omega
    have hX3 : X < W3.heap.size := by omega
    obtain ⟨_, _, hgn3, hgx3⟩ := HX.out.2.2.2.2.2.2.2.1
    have hrow : BlkAt W3 (some ⟨g, oo, none⟩) co O := (H5.out.2.2.2.2.2.2.oth.1).keep (by omega) fun g' hg' _ => hf3 g' (by injection hg' with hg'; rw [← hg']; exact hgx3)
    obtain ⟨k1, hk1e⟩ : ∃ k1 : Nat, k1 = k + 1 := ⟨_, rfl⟩
    obtain ⟨P, hP⟩ : ∃ P, P = O.take k := ⟨_, rfl⟩
    obtain ⟨R, hR⟩ : ∃ R, R = O.drop k1 := ⟨_, rfl⟩
    obtain ⟨Z, hZ⟩ : ∃ Z, Z = O.eraseIdx k := ⟨_, rfl⟩
    obtain ⟨pn, hpn⟩ : ∃ pn, Z.length = pn := ⟨_, rfl⟩
    have hPl : P.length = k := by have := HX.out.2.2.1; rw [hP, List.length_take]; omega
    have hRl : R.length = on - k1 := by rw [hR, List.length_drop, ← HX.out.2.2.1]
    have hPR : P ++ R = Z := by rw [hP, hR, hZ, hk1e, List.eraseIdx_eq_take_drop_succ]
    have hk1 : IntKind.i64.wrap ((k : Int) + 1) = (k1 : Int) := by rw [IntWalk.i64_in _ (by omega)]; omega
    have u0 : (k : Int) ≤ (co : Int) := by omega
    have u1 : (0 : Int) ≤ (k1 : Int) := by omega
    have u2 : (k1 : Int) ≤ (on : Int) := by omega
    have u3 : (on : Int) ≤ (co : Int) := by omega
    have hkn : k1 ≤ on := by omega
    have hsrcP : BlkAt W3 (some ⟨g, oo, none⟩) co P := by rw [hP]; exact blk_take hrow
    have hsrcR : BlkAt W3 (if co = k1 then some ⟨g, oo, none⟩ else some ⟨g, oo + k1 * 2, none⟩) (co - k1) R := by
      by_cases e : co = k1
      · have h0 : R = [] := List.length_eq_zero_iff.1 (by omega)
        rw [h0, if_pos e]
        exact ⟨Nat.zero_le _, by unfold maxLen; omega, fun j x hx => by simp at hx⟩
      · rw [if_neg e, hR]
        exact blk_drop hrow (by rw [← HX.out.2.2.1]; omega)
    have hx5a : (W3.alloc (.cells #[] 126)).cell? ⟨x, 5, none⟩ = some (.slice (some ⟨g, oo, none⟩) on co) := (World.cell?_alloc_lt W3 _ _ hxl3).trans x5
    have HK := Lib.hid (And.intro hPl (And.intro hRl (And.intro hPR (And.intro hpn (And.intro hsrcP (And.intro hsrcR (And.intro hZ (And.intro hs3 (And.intro hf3 hx3)))))))))
    have HKK := Lib.hid hk1e
    clear hPl hRl hPR hpn hsrcP hsrcR hZ hs3 hf3 hx3 hrow hP hR hk1e
    rw [show Op.load 44 (.tmp 63) = opT63 from rfl, show Op.load 44 (.tmp 70) = opT70 from rfl]
    go_cut [] from 8 to 77 (fun wx => ∃ (w8 : World) (A8 : Option Addr) (c8 : Nat), wx = w8.setCell ⟨x, 5, none⟩ (.slice A8 pn c8) ∧ Bu.Own w8 W3.heap.size A8 c8 Z ∧ Below W3.heap.size W3 w8)
    case first =>
      go_region_held3 (fun _ => True) (trivial) (first
        | (refine step_append_blkL (by rfl) (.tmp 60) (.tmp 66) (by rfl) W3.heap.size (some ⟨W3.heap.size, 0, none⟩) 0 0 [] (by rfl) (by rfl) (row_empty W3 _ (Nat.le_refl _)) (some ⟨g, oo, none⟩) k co P HK.out.1 (by rfl) (HK.out.2.2.2.2.1.keep (by show W3.heap.size ≤ (W3.alloc _).heap.size; simp) (fun z _ hz => alloc_old _ _ _ hz)) (fun h => by cases h) P k (List.nil_append _) HK.out.1 (by omega) (by show W3.heap.size ≤ (W3.alloc _).heap.size; simp) ?_
           intro A7 c7 w7 hrow7 hgr7
           have hb7 : Below W3.heap.size W3 w7 := ((below_box W3 _).drew).grown hgr7 (by show W3.heap.size ≤ (W3.alloc _).heap.size; simp) (fun k hk => ((row_empty W3 W3.heap.size (Nat.le_refl _)).lt k hk).1)
           have b5 : w7.cell? ⟨x, 5, none⟩ = some (.slice (some ⟨g, oo, none⟩) on co) := (hb7.cell (p := ⟨x, 5, none⟩) hxl3).trans x5
           have H7 := Lib.hid (And.intro hrow7 hb7)
           clear hrow7 hgr7 hb7)
        | (refine step_append_blkL (by rfl) (.tmp 67) (.tmp 74) (by rfl) W3.heap.size A7 k c7 P HK.out.1 (by rfl) (row_keep H7.out.1 (fun _ _ _ => rfl)) (if co = k1 then some ⟨g, oo, none⟩ else some ⟨g, oo + k1 * 2, none⟩) (on - k1) (co - k1) R HK.out.2.1 (by rfl) (HK.out.2.2.2.2.2.1.keep H7.out.2.size (fun z _ hz => H7.out.2.block z hz)) (fun h => by split at h <;> cases h) Z pn HK.out.2.2.1 HK.out.2.2.2.1 (by omega) H7.out.2.size ?_
           intro A8 c8 w8 hrow8 hgr8
           have hb8 : Below W3.heap.size W3 w8 := (H7.out.2).grown hgr8 H7.out.2.size (fun k hk => (H7.out.1.lt k hk).1)
           have r5 : w8.cell? ⟨x, 5, none⟩ = some (.slice (some ⟨g, oo, none⟩) on co) := (hb8.cell (p := ⟨x, 5, none⟩) hxl3).trans x5
           have rf5 : w8.frozen? ⟨x, 5, none⟩ = false := (hb8.frozen (p := ⟨x, 5, none⟩) hxl3).trans xf5
           have H8 := Lib.hid (And.intro hrow8 hb8)
           clear hrow8 hgr8 hb8))
      all_goals (try go_wp2_with (fail))
      all_goals go_meet
      all_goals exact ⟨w8, A8, c8, rfl, H8.out.1, H8.out.2⟩
    case rest =>
      obtain ⟨w8, A8, c8, hwc, ho8, hb8⟩ := hcut
      obtain ⟨W7, rfl⟩ : ∃ W7 : World, W7 = wc := ⟨_, rfl⟩
      obtain ⟨hPl, hRl, hPR, hpn, hsrcP, hsrcR, hZ, hs3, hf3, hx3⟩ := HK.out
      obtain ⟨_, _, ho5, hbw, hx2, hdn, h2⟩ := H5.out
      obtain ⟨h1, hb1, hs1, hz1, hX, hD⟩ := HY.out
      obtain ⟨hh, hln, hon, hzO, hzm, hmL, hin, hgx, hxb, hS⟩ := HX.out
      have hs8 := hb8.size
      have hs7 : W7.heap.size = w8.heap.size := by rw [hwc, setCell_size]
      have hf7 : ∀ z, z < W3.heap.size → z ≠ x → W7.heap[z]? = W3.heap[z]? := fun z h1 h2 => by rw [hwc]; exact (setCell_far _ _ _ _ h2).trans (hb8.block z h1)
      have hx7 : W7.heap[x]? = some (.cells #[.pointer (some ⟨b, 0, none⟩), .pointer (some ⟨c, 0, none⟩), .int .i64 (N : Int), .slice A5 dn c5, .pointer (some ⟨r, 0, none⟩), .slice A8 pn c8] 72 (0, 0)) := by
        rw [hwc]; exact setCell_at _ _ 5 _ _ _ ((hb8.block x hxl3).trans hx3)
      have hX7 : W7.heap[X]? = some (.cells #[.int .i64 (p : Int), .int .i64 (m : Int)] 126 (0, 0)) := (hf7 X hX3 (by omega)).trans ((hf3 X (by omega)).trans ((hbw.block X (by omega)).trans hz1))
      have hbb : b < W.heap.size := hxb.2.2
      have hB7 : BuL W7 b N L := h2.prog.held.bu.keep ((hf7 b (by omega) hxb.1.symm).trans (hf3 b hxb.1.symm))
      obtain ⟨a0, a1, _, _⟩ := Bu.two_cells hX7
      clear x0 x5 xf5 hx5a
      obtain ⟨x0, _⟩ := six_cells hx7
      have hxl7 : x < W7.heap.size := by omega
      have hX7l : X < W7.heap.size := by omega
      have HF := Lib.hid (fr_some (w := World.drew W7) (x := (p, m)) (hB7.keep rfl) hin hmL hD.symm)
      have H7 := Lib.hid (And.intro hs8 (And.intro hs7 (And.intro hf7 (And.intro hx7 (And.intro hB7 (And.intro ho8 (And.intro hb8 hwc)))))))
      clear hPl hRl hPR hpn hsrcP hsrcR hZ hs3 hf3 hx3 ho5 hbw hx2 hdn h2 h1 hb1 hs1 hz1 hX hD hh hln hon hzO hzm hmL hin hgx hS hs8 hs7 hf7 hx7 hX7 hB7 ho8 hb8 hwc
      have hbx := hxb.1
      have hXb : X ≠ b := by have := HY.out.2.2.2.2.1; omega
      go_upto_region 7 with (fail)
      go_region_held3 (fun w' => w'.cell? ⟨x, 0, none⟩ = some (.pointer (some ⟨b, 0, none⟩)) ∧ w'.cell? ⟨X, 0, none⟩ = some (.int .i64 (p : Int)) ∧ w'.cell? ⟨X, 1, none⟩ = some (.int .i64 (m : Int))) (first | exact ⟨x0, a0, a1⟩ | exact ⟨y0, z0, z1⟩) ((go_at_call 71; refine HF.out.mono ?_; rintro _ W9 ⟨rfl, hB9, hg9⟩; have y0 : W9.cell? ⟨x, 0, none⟩ = some (.pointer (some ⟨b, 0, none⟩)) := (World.cell?_of_block (a := ⟨x, 0, none⟩) (hg9.block x hxl7 hbx)).trans x0; have z0 : W9.cell? ⟨X, 0, none⟩ = some (.int .i64 (p : Int)) := (World.cell?_of_block (a := ⟨X, 0, none⟩) (hg9.block X hX7l hXb)).trans a0; have z1 : W9.cell? ⟨X, 1, none⟩ = some (.int .i64 (m : Int)) := (World.cell?_of_block (a := ⟨X, 1, none⟩) (hg9.block X hX7l hXb)).trans a1; have H9 := Lib.hid (And.intro hB9 hg9); clear hB9 hg9))
      go_wp2_with (fail)
      go_ret
      obtain ⟨hPl, hRl, hPR, hpn, hsrcP, hsrcR, hZ, hs3, hf3, hx3⟩ := HK.out
      obtain ⟨_, _, ho5, hbw, hx2, hdn, h2⟩ := H5.out
      obtain ⟨h1, hb1, hs1, hz1, hX, hD⟩ := HY.out
      obtain ⟨hh, hln, hon, hzO, hzm, hmL, hin, hgx, hxb, hS⟩ := HX.out
      obtain ⟨hs8, hs7, hf7, hx7, hB7, ho8, hb8, hwc⟩ := H7.out
      obtain ⟨hB9, hg9⟩ := H9.out
      have hs9 : W7.heap.size ≤ W9.heap.size := hg9.size
      have hf9 : ∀ z, z < W3.heap.size → z ≠ x → z ≠ b → W9.heap[z]? = V.heap[z]? := fun z k1 k2 k3 => (hg9.block z (by show z < W7.heap.size; omega) k3).trans ((hf7 z k1 k2).trans (hf3 z k2))
      have hw0 : w0.heap.size ≤ W3.heap.size := by have := hh.prog.below.size; omega
      refine ⟨rfl, c, own, own2, C, D, q, A5, c5, O.eraseIdx k, A8, c8, hh.nbr (W' := W9) ⟨?_, ?_, ?_⟩ ?_ ?_ ?_ hB9 (.inr ?_) ?_ ?_ (by rw [hD]; exact ok_delO hh.prog.held.ok hh.sub hzm) (by rw [hD]; exact sub_delO hh.sub hh.nd hzO) (hh.nd.sublist (List.eraseIdx_sublist O k)) ?_⟩
      · exact hg9.os.trans ((by rw [hwc]; rfl : W7.os = w8.os).trans (hb8.os.trans ((by rw [HW3.out]; rfl : W3.os = V.os).trans (hbw.os.trans hb1.os))))
      · exact hg9.tape.trans ((by rw [hwc]; rfl : W7.tape = w8.tape).trans (hb8.tape.trans ((by rw [HW3.out]; rfl : W3.tape = V.tape).trans (hbw.tape.trans hb1.tape))))
      · exact hg9.output.trans ((by rw [hwc]; rfl : W7.output = w8.output).trans (hb8.output.trans ((by rw [HW3.out]; rfl : W3.output = V.output).trans (hbw.output.trans hb1.output))))
      · omega
      · intro z k1 k2 k3 _
        exact (hf9 z (by omega) k2 k3).trans ((hbw.block z (by omega)).trans (hb1.block z k1))
      · have := (hg9.block x hxl7 hbx).trans hx7
        rw [this, hdn, ← hpn, hZ]
      · refine row_low (row_sameB ho5 fun g hg => ?_) (show W.heap.size ≤ W1.heap.size by omega)
        have h7 := ho5.lt g hg
        exact hf9 g (by omega) (by omega) (by omega)
      · have := row_low ho8 hw0
        rw [hZ] at this
        refine row_sameB this fun g hg => ?_
        have h7 := ho8.lt g (by rw [hZ]; exact hg)
        have e : W9.heap[g]? = W7.heap[g]? := hg9.block g (by show g < W7.heap.size; omega) (by omega)
        rw [e, hwc]
        exact setCell_far _ _ _ _ (by show g ≠ x; omega)
      · intro g hg
        have h7 := (ho8.at).2 g hg
        exact .inl (by omega)
      · intro g' hg'
        have : g = g' := by injection hg'
        rw [← this]
        exact (hh.oo.lt g rfl).1
end Sl
end Go.Proofs.Ytlknhbcambdccaa
namespace Go.Proofs.Ytlknhbcambdccaa
open Go.RowKit
namespace Sl
open Bu

theorem neighbour_ok (w0 : World) (x b r N : Nat) (n : Int) (W : World) {c : Nat} {own own2 : Own?} {C : Ca} {L : List Blk} {q : List RS} {A : Option Addr} {cG : Nat} {O : List Blk} {Ao : Option Addr} {co : Nat} (h : DuoO w0 ⟨x, 2, none⟩ x c b r own own2 C N L q A cG O Ao co W) :
    Calls Try.prog 59 #[.pointer (some ⟨x, 0, none⟩), .int .i64 n] W fun e W' => e = .returned (.bool true) ∧ Wld w0 x b r N W' := by
  by_cases hn : n.tmod 2 = 0 ∨ O.length = 0
  · obtain ⟨U, k, hU, hk4, htm, hem, hk64, hki⟩ := four_nums n
    cases ha : allocB N L k with
    | none => exact nb_none w0 x b r N n W h hn U k hU hk4 htm hem hk64 hki ha
    | some pl => obtain ⟨p, D⟩ := pl; exact nb_some w0 x b r N n W h hn U k p D hU hk4 htm hem hk64 hki ha
  · have ho := len_O h.prog.held.ok.st h.sub h.nd
    obtain ⟨U, k, hU, hk, hl64, htm, hem, hk64, hki⟩ := pick_nums n O.length (by omega) (by omega)
    obtain ⟨z, hz⟩ : ∃ z, O[k]? = some z := ⟨_, List.getElem?_eq_getElem hk⟩
    exact nb_give w0 x b r N n W h (by omega) U k z.1 z.2 hz hU hl64 htm hem hk64 hki

set_option maxRecDepth 100000 in
set_option maxHeartbeats 8000000 in
theorem does_nb (w0 : World) (x b r N : Nat) (P : Nat) (hP : P < 256) (k : Nat) (hk : P % 12 = k) (hkl : k = 10) (n : Int) (hn1 : -9223372036854775808 ≤ n) (hn2 : n < 9223372036854775808) (W : World) {c : Nat} {own own2 : Own?} {C : Ca} {L : List Blk} {q : List RS} {A : Option Addr} {cG : Nat} {O : List Blk} {Ao : Option Addr} {co : Nat} (h : DuoO w0 ⟨x, 2, none⟩ x c b r own own2 C N L q A cG O Ao co W) :
    Calls Try.prog 26 #[.pointer (some ⟨x, 0, none⟩), .agg #[.int .u8 (P : Int), .int .i64 n]] W fun e W' => e = .returned (.bool true) ∧ Wld w0 x b r N W' := by
  obtain ⟨W1, hW1⟩ : ∃ W1, W1 = W.alloc (.cells #[.int .u8 (P : Int), .int .i64 n] 57) := ⟨_, rfl⟩
  have hb1 : Below W.heap.size W W1 := by rw [hW1]; exact below_box W _
  have hg1 : W1.heap[W.heap.size]? = some (.cells #[.int .u8 (P : Int), .int .i64 n] 57 (0, 0)) := by rw [hW1, heapAlloc, if_pos rfl]
  have h1 := h.below hb1
  obtain ⟨g0, g1, _, _⟩ := Bu.two_cells hg1
  obtain ⟨x0, x1, _, _, x4, _⟩ := six_cells h1.wrld
  have hgl : W.heap.size < W1.heap.size := by rw [hW1]; simp
  have hxl := lt_of_heap h1.wrld
  obtain ⟨M, hM⟩ : ∃ M, M = objC C := ⟨_, rfl⟩
  have hO := objectsR_ok W1 own2 r ⟨x, 2, none⟩ C.size C.order C.keep N L q h1.ref h1.fr2 h1.refok
  rw [show objC (refC C.size C.order C.keep q) = M by rw [hM]; unfold refC; rw [h1.refq]] at hO
  have HO := Lib.hid hO
  have HW := Lib.hid hW1
  have H1 := Lib.hid (And.intro h1 hM)
  have HGN := Lib.hid (show own W.heap.size = none ∧ own2 W.heap.size = none ∧ W.heap.size ≠ x from ⟨Classical.byContradiction fun e => by have := h.prog.held.fresh _ e; omega, Classical.byContradiction fun e => by have := h.fr2 _ e; omega, by have := lt_of_heap h.wrld; omega⟩)
  have hki : (P : Int) % 12 = (k : Int) := by omega
  have eP : (0 : Int) ≤ (P : Int) := by omega
  have eP2 : (P : Int) < 256 := by omega
  subst hkl
  have hki : (P : Int) % 12 = 10 := hki
  clear hW1 hb1 hg1 h1 h hO hM hk hP
  go_enter Try.func26, Try.ntmps26
  go_upto_region 1 with (fail)
  rw [← HW.out]
  go_wp2_with (go_at_call 53; fail)
  refine HO.out.mono ?_
  rintro _ W2 ⟨⟨A2, c2, rfl, ho2⟩, hb2⟩
  obtain ⟨ml, hml⟩ : ∃ ml, ml = M.length := ⟨_, rfl⟩
  rw [← hml]
  replace x0 := (hb2.cell (p := ⟨x, 0, none⟩) hxl).trans x0
  replace x1 := (hb2.cell (p := ⟨x, 1, none⟩) hxl).trans x1
  replace x4 := (hb2.cell (p := ⟨x, 4, none⟩) hxl).trans x4
  replace g0 := (hb2.cell (p := ⟨W.heap.size, 0, none⟩) hgl).trans g0
  replace g1 := (hb2.cell (p := ⟨W.heap.size, 1, none⟩) hgl).trans g1
  have hxl2 : x < W2.heap.size := Nat.lt_of_lt_of_le hxl hb2.size
  have hgl2 : W.heap.size < W2.heap.size := Nat.lt_of_lt_of_le hgl hb2.size
  have H2 := Lib.hid (And.intro (H1.out.1.below hb2) (And.intro (own64_at ho2) hml))
  clear ho2 hb2 hml
  have HN := Lib.hid (neighbour_ok w0 x b r N n W2 H2.out.1)
  go_wp2_with (go_at_call 59; fail)
  refine HN.out.mono ?_
  rintro _ W3 ⟨rfl, hW3⟩
  have H3 := Lib.hid hW3
  clear hW3
  go_wp2_with (fail)
  go_ret
  exact ⟨rfl, H3.out⟩

theorem does_ok (w0 : World) (x b r N : Nat) (P : Nat) (hP : P < 256) (n : Int) (hn1 : -9223372036854775808 ≤ n) (hn2 : n < 9223372036854775808) (W : World) (h : Wld w0 x b r N W) :
    Calls Try.prog 26 #[.pointer (some ⟨x, 0, none⟩), .agg #[.int .u8 (P : Int), .int .i64 n]] W fun e W' => e = .returned (.bool true) ∧ Wld w0 x b r N W' := by
  obtain ⟨c, own, own2, C, L, q, A, cG, O, Ao, co, h⟩ := h
  obtain ⟨k, hk⟩ : ∃ k, P % 12 = k := ⟨_, rfl⟩
  have hk12 : k < 12 := by omega
  by_cases h5 : k < 5
  · exact does_alloc w0 x b r N P hP k hk h5 n hn1 hn2 W h
  by_cases h7 : k < 7
  · exact does_pick w0 x b r N P hP k hk ⟨by omega, h7⟩ n hn1 hn2 W h
  by_cases e7 : k = 7
  · exact does_free w0 x b r N P hP k hk e7 n hn1 hn2 W h
  by_cases e8 : k = 8
  · exact does_trim w0 x b r N P hP k hk e8 n hn1 hn2 W h
  by_cases e9 : k = 9
  · exact does_owner w0 x b r N P hP k hk e9 n hn1 hn2 W h
  by_cases e10 : k = 10
  · exact does_nb w0 x b r N P hP k hk e10 n hn1 hn2 W h
  · exact does_load w0 x b r N P hP k hk (by omega) n hn1 hn2 W h
end Sl
end Go.Proofs.Ytlknhbcambdccaa
