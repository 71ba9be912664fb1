/- ints of the law; a cache, what the reference says of it, and the other user: side by side. -/
import Derived.Test.YtlknhbcambdccaaJZI
namespace Go.Proofs.Ytlknhbcambdccaa
open Go.RowKit
namespace Sl
open Bu

set_option maxRecDepth 100000 in
set_option maxHeartbeats 2000000 in
theorem ints_ok (w : World) (A B : Option Addr) (c d : Nat) (M : List Nat) (h1 : I64At w A c M) (h2 : I64At w B d M) :
    Calls Try.prog 63 #[.slice A M.length c, .slice B M.length d] w fun e w' => e = .returned (.bool true) ∧ Below w.heap.size w w' := by
  obtain ⟨n, hn⟩ : ∃ n, n = M.length := ⟨_, rfl⟩
  have l1 := h1.len
  have l2 := h2.len
  have m1 := h1.cap
  have m2 := h2.cap
  unfold maxLen at m1 m2
  rw [← hn] at l1 l2 ⊢
  have HX := Lib.hid (And.intro h1 (And.intro h2 hn))
  clear h1 h2 hn
  go_enter Try.func63, Try.ntmps63
  go_wp2_with (fail)
  go_loopw [5] (fun i wr => ∃ k : Nat, k ≤ n ∧ i = .int .i64 (k : Int) ∧ ∃ m, wr = w.drewN m) (fun i _ => n - (intOf i).toNat)
  case atStart => exact ⟨0, Nat.zero_le _, rfl, 0, rfl⟩
  case round =>
    obtain ⟨k, hk, rfl, m, hm⟩ := hrel
    have e0 : (0 : Int) ≤ (k : Int) := by omega
    by_cases hlt : k < n
    · have e1 : (k : Int) < (n : Int) := by omega
      have hkk : IntKind.i64.wrap ((k : Int) + 1) = ((k + 1 : Nat) : Int) := by rw [IntWalk.i64_in _ (by omega)]; rfl
      obtain ⟨x, hx⟩ : ∃ x, M[k]? = some x := ⟨_, List.getElem?_eq_getElem (by have := HX.out.2.2; omega)⟩
      obtain ⟨g1, o1, rfl, _, d1⟩ := HX.out.1.at_ k x hx
      obtain ⟨g2, o2, rfl, _, d2⟩ := HX.out.2.1.at_ k x hx
      replace d1 : wr.cell? ⟨g1, o1 + k, none⟩ = some (.int .i64 (x : Int)) := by rw [hm]; exact d1
      replace d2 : wr.cell? ⟨g2, o2 + k, none⟩ = some (.int .i64 (x : Int)) := by rw [hm]; exact d2
      have hbb : ((x : Int) != (x : Int)) = false := by simp
      have HM := Lib.hid hm
      clear hm hx
      go_wp2_with (fail)
      go_quiet (fail)
      go_wp2
      go_roundw
      case rel => exact ⟨k + 1, by omega, by go_num, _, by rw [HM.out]; exact World.drewN_drewN ..⟩
      case measure => simp [intOf]; omega
    · obtain rfl : k = n := by omega
      have e1 : ¬ ((k : Nat) : Int) < (k : Int) := by omega
      have HM := Lib.hid hm
      clear hm
      go_wp2
      go_ret
      exact ⟨rfl, by rw [HM.out]; exact below_drew w m⟩

/-- A cache, what the reference says of it, the state of the allocator, and the blocks of the other user. -/
structure Duo (w0 : World) (Bp : Addr) (x c b r : Nat) (own own2 : Own?) (C : Ca) (N : Nat) (L : List Blk) (q : List RS) (A : Option Addr) (cG : Nat) (O : List Blk) (Ao : Option Addr) (co : Nat) (W : World) : Prop where
  prog : Mine w0 own c b C N L W
  ref : RefAt W own2 r Bp C.size C.order C.keep q
  refq : q.map (·.1) = C.sl
  fr2 : Fresh own2 W
  out2 : ∀ z, z < w0.heap.size → own2 z = none
  dis : ∀ z, own z ≠ none → own2 z = none
  wrld : W.heap[x]? = some (.cells #[.pointer (some ⟨b, 0, none⟩), .pointer (some ⟨c, 0, none⟩), .int .i64 (N : Int), .slice A L.length cG, .pointer (some ⟨r, 0, none⟩), .slice Ao O.length co] 72 (0, 0))
  xnew : w0.heap.size ≤ x ∧ own x = none ∧ own2 x = none
  st : BlkAt W A cG L ∧ (L ≠ [] → ∀ g, A.map (·.block) = some g → g < W.heap.size ∧ own g = none ∧ own2 g = none ∧ g ≠ x)
  oth : BlkAt W Ao co O ∧ (Ao = none → co = 0) ∧ ∀ g, Ao.map (·.block) = some g → g < W.heap.size ∧ own g = none ∧ own2 g = none ∧ g ≠ x
  sub : ∀ z ∈ O, z ∈ L ∧ ∀ y ∈ C.sl, z ≠ (y.pg, C.order)
  nd : O.Nodup

theorem Duo.below {w0 : World} {Bp : Addr} {x c b r : Nat} {own own2 : Own?} {C : Ca} {N : Nat} {L : List Blk} {q : List RS} {A : Option Addr} {cG : Nat} {O : List Blk} {Ao : Option Addr} {co : Nat} {W W' : World} (h : Duo w0 Bp x c b r own own2 C N L q A cG O Ao co W) (hb : Below W.heap.size W W') :
    Duo w0 Bp x c b r own own2 C N L q A cG O Ao co W' := by
  refine ⟨h.prog.step hb, h.ref.below h.fr2 hb, h.refq, fun k hk => Nat.lt_of_lt_of_le (h.fr2 k hk) hb.size, h.out2, h.dis, (hb.block x (lt_of_heap h.wrld)).trans h.wrld, h.xnew, ⟨h.st.1.below hb, fun hL g hg => ?_⟩, ⟨h.oth.1.below hb, h.oth.2.1, fun g hg => ?_⟩, h.sub, h.nd⟩
  · obtain ⟨k2, k3⟩ := h.st.2 hL g hg
    exact ⟨Nat.lt_of_lt_of_le k2 hb.size, k3⟩
  · obtain ⟨k2, k3⟩ := h.oth.2.2 g hg
    exact ⟨Nat.lt_of_lt_of_le k2 hb.size, k3⟩
theorem Duo.refok {w0 : World} {Bp : Addr} {x c b r : Nat} {own own2 : Own?} {C : Ca} {N : Nat} {L : List Blk} {q : List RS} {A : Option Addr} {cG : Nat} {O : List Blk} {Ao : Option Addr} {co : Nat} {W : World} (h : Duo w0 Bp x c b r own own2 C N L q A cG O Ao co W) : CaOk (refC C.size C.order C.keep q) N L := by
  have := h.prog.held.ok
  unfold refC
  rw [h.refq]; exact this
end Sl
end Go.Proofs.Ytlknhbcambdccaa
