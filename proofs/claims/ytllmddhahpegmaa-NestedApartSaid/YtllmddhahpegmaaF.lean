/- The walks of live and Live. -/
import Derived.Test.YtllmddhahpegmaaE
import Derived.Test.YtllmddhahpegmaaPlain2
import Derived.StillTailTactics
import Derived.Deep.RegionHeld3
namespace Go.Proofs.Ytllmddhahpegmaa
open Go.RowKit
namespace Ne

theorem rowCells {w : World} {A : Option Addr} {c : Nat} {l : List Item} (h : w.ownsRow 0 54 3 (.slice A l.length c) l.length (icells l)) :
    l.length ≤ c ∧ c ≤ maxLen ∧ ∀ j x, l[j]? = some x → ∃ g, A = some ⟨g, 0, none⟩ ∧ g < w.heap.size ∧ w.cell? ⟨g, j * 3, none⟩ = some (.int .i64 x.a) ∧ w.cell? ⟨g, j * 3 + 1, none⟩ = some (.int .i64 x.s) ∧ w.cell? ⟨g, j * 3 + 2, none⟩ = some (.int .i64 x.c) := by
  rcases rowOpen h with ⟨h1, h2⟩ | ⟨g, cap, cur, h1, hlc, hcm, hg, hcs, hc⟩
  · injection h1 with h1 h3 h4
    subst h2 h4
    exact ⟨by simp, by simp [maxLen], fun j x hx => by simp at hx⟩
  · injection h1 with h1 h3 h4
    subst h4
    exact ⟨hlc, hcm, fun j x hx => ⟨g, h1, lt_of_heap hg, hc j x hx⟩⟩

theorem liveOk_bound {t : Tr} {f : Nat} {l : List Item} (_ : LiveOk t (f + 1) l) {x : Item} (_ : x ∈ l) : True := trivial

set_option maxRecDepth 100000 in
set_option maxHeartbeats 1000000 in
theorem live_walk (own : Nat → Option Nat) (t g cap : Nat) (cs : Array Value) (M : Tr) (_ : M.length ≤ 64) (f : Nat) : ∀ (l : List Item) (A : Option Addr) (c : Nat) (w : World), TreeAt w own t g cap cs M → LiveOk M f l → l.length ≤ 200 →
    w.ownsRow 0 54 3 (.slice A l.length c) l.length (icells l) →
    Calls Try.prog 38 #[.pointer (some ⟨t, 0, none⟩), .slice A l.length c] w fun e w' => e = .returned (.int .i64 (live M f l)) ∧ Below w.heap.size w w' := by
  induction f with
  | zero => intro l A c w _ h; exact h.elim
  | succ f ih =>
    intro l A c w hT hL hlen hrow
    obtain ⟨hkid, hsum, hsz⟩ := hL
    obtain ⟨hlc, hcm, hcell⟩ := rowCells hrow
    have HI := Lib.hid ih
    have HT := Lib.hid hT
    have HC := Lib.hid hcell
    have HS := Lib.hid hsum
    have HZ := Lib.hid hsz
    have HKid := Lib.hid hkid
    have h0 : live M (f + 1) (l.take 0) = 0 := rfl
    have HE := Lib.hid (show live M (f + 1) (l.take l.length) = live M (f + 1) l by rw [List.take_length])
    have HTk := Lib.hid (fun j x hx => live_take M f l j x hx)
    clear ih hT hcell hsum hsz hkid hrow
    unfold maxLen at hcm
    have HL0 := Lib.hid h0
    clear h0
    go_enter Try.func38, Try.ntmps38
    go_wp2_with fail
    go_loopw [5, 7, 10] (fun s p i wr => ∃ j : Nat, j ≤ l.length ∧ i = .int .i64 j ∧ s = .int .i64 (live M (f + 1) (l.take j)) ∧ Below w.heap.size w wr) (fun _ _ i _ => l.length - (intOf i).toNat)
    case atStart => exact ⟨0, Nat.zero_le _, rfl, by rw [HL0.out], Below.refl _ _⟩
    case round =>
      obtain ⟨j, hj, rfl, rfl, hb⟩ := hrel
      have hM1 : wr.cell? ⟨t, 0, none⟩ = some (.slice (some ⟨g, 0, none⟩) M.length cap) := (hb.cell (p := ⟨t, 0, none⟩) (lt_of_heap HT.out.top)).trans (by simp [World.cell?, HT.out.top])
      have hs := HS.out j
      by_cases hlt : j < l.length
      · obtain ⟨x, hx⟩ : ∃ x, l[j]? = some x := ⟨_, List.getElem?_eq_getElem hlt⟩
        have hxm := List.mem_of_getElem? hx
        obtain ⟨g', rfl, hg', k1, k2, k3⟩ := HC.out j x hx
        have k1 := (hb.cell (p := ⟨g', j * 3, none⟩) hg').trans k1
        have k2 := (hb.cell (p := ⟨g', j * 3 + 1, none⟩) hg').trans k2
        have k3 := (hb.cell (p := ⟨g', j * 3 + 2, none⟩) hg').trans k3
        have hs2 := HS.out (j + 1)
        have ht := HTk.out j x hx
        rw [ht] at hs2
        have hz := HZ.out x hxm
        have HX := Lib.hid ht
        clear ht hx
        by_cases hc0 : 0 ≤ x.c
        · obtain ⟨n, hn, hnl, hok⟩ := HKid.out x hxm hc0
          have hlo : liveOf M f x = live M f n.l := by simp [liveOf, hc0, itemsOf, hn]
          rw [hlo] at hs2
          obtain ⟨v, hv, b, iv, rfl, hob, hbh, hil⟩ := HT.out.node _ _ hn
          obtain ⟨A2, c2, rfl⟩ := itemsLen hil
          have hql : x.c.toNat < M.length := (List.getElem?_eq_some_iff.1 hn).1
          have m1 : wr.cell? ⟨g, x.c.toNat, none⟩ = some (.pointer (some ⟨b, 0, none⟩)) := (hb.cell (p := ⟨g, _, none⟩) (lt_of_heap HT.out.row)).trans (by rw [cell_of_row w g _ cs _ _ HT.out.row, hv])
          have m2 : wr.cell? ⟨b, 3, none⟩ = some (.slice A2 n.l.length c2) := (hb.cell (p := ⟨b, _, none⟩) (lt_of_heap hbh)).trans (nodeOpen hbh).2.2.2.1
          have HCall : ∀ w2, Below w.heap.size w w2 → Calls Try.prog 38 #[.pointer (some ⟨t, 0, none⟩), .slice A2 n.l.length c2] w2 fun e w' => e = .returned (.int .i64 (live M f n.l)) ∧ Below w2.heap.size w2 w' := fun w2 h2 =>
            HI.out n.l A2 c2 w2 (HT.out.same fun k _ hk => ⟨h2.block k hk, rfl⟩) hok hnl (row_same hil.1 fun k hk => h2.block k ((hil.1.lt k hk).2))
          have HCall := Lib.hid HCall
          have HLO := Lib.hid hlo
          clear hlo hil hbh hob hv hn hok
          generalize hq : x.c = q at *
          obtain ⟨y, rfl⟩ := Int.eq_ofNat_of_zero_le hc0
          rw [Int.toNat_natCast] at m1 hql
          generalize live M f n.l = V at *
          generalize live M (f + 1) (l.take j) = S at *
          generalize n.l.length = N at *
          clear hq hc0
          have n1 := World.new_ne wr _ hM1
          have n2 := World.new_ne wr _ m1
          have n3 := World.new_ne wr _ m2
          have l1 : t < wr.heap.size := World.block_lt_of_cell? wr _ hM1
          have l2 : g < wr.heap.size := World.block_lt_of_cell? wr _ m1
          have l3 : b < wr.heap.size := World.block_lt_of_cell? wr _ m2
          go_wp2_with fail
          go_region_held3 (fun w' => w'.cell? ⟨t, 0, none⟩ = some (.slice (some ⟨g, 0, none⟩) M.length cap) ∧ w'.cell? ⟨wr.heap.size, 2, none⟩ = some (.int .i64 y) ∧ w'.cell? ⟨g, y, none⟩ = some (.pointer (some ⟨b, 0, none⟩)) ∧ w'.cell? ⟨b, 3, none⟩ = some (.slice A2 N c2)) (first | go_keep | (refine ⟨(hb3.cell ?_).trans ?_, (hb3.cell ?_).trans ?_, (hb3.cell ?_).trans ?_, (hb3.cell ?_).trans ?_⟩ <;> first | (simp; omega) | go_keep))
            (first | (go_at_call 38; refine (HCall.out _ (by first | exact (hb.alloc hb.size _).drew | exact hb.alloc hb.size _)).mono ?_; rintro e w3 ⟨rfl, hb3⟩))
          go_wp2
          go_roundw
          case rel => exact ⟨j + 1, by omega, by go_num, by rw [HX.out, HLO.out, IntWalk.i64_in _ (by omega)], ((hb.alloc hb.size _).drew).trans (hb3.mono (by have := hb.size; simp; omega))⟩
          case measure => simp [intOf]; omega
        · have hlo : liveOf M f x = if x.c = -1 then x.s else 0 := by simp [liveOf, hc0]
          by_cases hc1 : x.c = -1
          · have hlo : liveOf M f x = x.s := by simp [hlo, hc1]
            rw [hlo] at hs2
            have HLO := Lib.hid hlo
            clear hlo hc0
            generalize live M (f + 1) (l.take j) = S at *
            rw [hc1] at k3
            generalize x.s = z at *
            clear hc1
            go_wp2
            go_roundw
            case rel => exact ⟨j + 1, by omega, by go_num, by rw [HX.out, HLO.out], hb.alloc hb.size _⟩
            case measure => simp [intOf]; omega
          · have hlo : liveOf M f x = 0 := by simp [hlo, hc1]
            rw [hlo] at hs2
            have HLO := Lib.hid hlo
            have hcb : (x.c == -1) = false := by rw [beq_eq_false_iff_ne]; exact hc1
            clear hlo hc1
            generalize live M (f + 1) (l.take j) = S at *
            go_wp2
            go_roundw
            case rel => exact ⟨j + 1, by omega, by go_num, by rw [HX.out, HLO.out]; simp, hb.alloc hb.size _⟩
            case measure => simp [intOf]; omega
      · obtain rfl : j = l.length := by omega
        rw [HE.out] at hs
        go_wp2
        go_ret
        exact ⟨by rw [← HE.out]; rfl, hb⟩

/-- What lives in an arena. -/
def liveIn (t : Tr) (f : Nat) (i : Int) : Int × Int := match find t i with
  | none => (0, 4)
  | some n => (live t f n.l, 0)

set_option maxHeartbeats 400000 in
theorem live_tree (w : World) (own : Nat → Option Nat) (t g cap : Nat) (cs : Array Value) (M : Tr) (i : Int) (f : Nat) (h : TreeAt w own t g cap cs M) (hg : Good M) (hf : ∀ n, find M i = some n → LiveOk M f n.l) :
    Calls Try.prog 17 #[.pointer (some ⟨t, 0, none⟩), .int .i64 i] w fun e w' => e = .returned (.tuple #[.int .i64 (liveIn M f i).1, .int .i64 (liveIn M f i).2]) ∧ Below w.heap.size w w' := by
  rcases find_cases w own t g cap cs M i h hg with ⟨hfi, hc⟩ | ⟨n, b, A, c, hfi, h0, hM, _, _, hb, hl, hok, hc⟩
  · have H := Lib.hid hc
    rw [show liveIn M f i = (0, 4) by simp [liveIn, hfi]]
    clear hc hf h hg hfi
    go_enter Try.func17, Try.ntmps17
    go_wp2_with (first | (go_at_call 37; refine H.out.mono ?_; rintro e w' ⟨rfl, rfl⟩))
    go_ret2
    exact ⟨rfl, Below.refl _ _⟩
  · have H := Lib.hid hc
    rw [show liveIn M f i = (live M f n.l, 0) by simp [liveIn, hfi]]
    have HL := Lib.hid (live_walk own t g cap cs M hg.len f n.l A c w h (hf n hfi) hok.len hl.1)
    obtain ⟨c0, c1, c2, c3, c4, _⟩ := nodeOpen hb
    generalize live M f n.l = V at *
    generalize n.l.length = L at *
    clear hc hf h hg hb hl hok hM hfi
    go_enter Try.func17, Try.ntmps17
    go_wp2_with (first | (go_at_call 37; refine H.out.mono ?_; rintro e w' ⟨rfl, rfl⟩) | (go_at_call 38; refine HL.out.mono ?_; rintro e w' ⟨rfl, hb1⟩))
    go_ret2
    exact ⟨rfl, hb1⟩
end Ne
end Go.Proofs.Ytllmddhahpegmaa
