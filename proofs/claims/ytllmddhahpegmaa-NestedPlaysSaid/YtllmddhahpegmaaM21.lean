/- The reference: the walk of shut. The reference: shut, and which rows it leaves. The reference: tidy. -/
import Derived.Test.YtllmddhahpegmaaM20
namespace Go.Proofs.Ytllmddhahpegmaa
open Go.RowKit
namespace Ne

theorem row_at' {w : World} {z : SZ} (h : w.ownsRow 0 54 3 (.slice z.A z.x.l.length z.c) z.x.l.length (icells z.x.l)) {j : Nat} {x : Item} (hj : z.x.l[j]? = some x) :
    ∃ g f, z.A = some ⟨g, f, none⟩ ∧ z.blk = some g ∧ g < w.heap.size ∧ w.cell? ⟨g, f + j * 3, none⟩ = some (.int .i64 x.a) ∧ w.cell? ⟨g, f + j * 3 + 1, none⟩ = some (.int .i64 x.s) ∧ w.cell? ⟨g, f + j * 3 + 2, none⟩ = some (.int .i64 x.c) := by
  obtain ⟨g, f, hA, hg, r⟩ := row_at (RowK.of_row (K := fun _ => True) h fun _ _ => trivial) hj
  exact ⟨g, f, hA, by unfold SZ.blk SZ.val; rw [hA]; rfl, hg, r⟩

theorem sz_at {zs : List SZ} {M : Tr} (hs : zs.map (·.x) = save M) {k : Nat} {o : Option Node} (hk : M[k]? = some o) : ∃ z, zs[k]? = some z ∧ z.x = saveNode o := by
  have h1 : (save M)[k]? = some (saveNode o) := by rw [save, List.getElem?_map, hk]; rfl
  rw [← hs, List.getElem?_map] at h1
  cases e : zs[k]? with
  | none => rw [e] at h1; cases h1
  | some z => rw [e] at h1; exact ⟨z, rfl, by injection h1⟩

set_option maxRecDepth 100000 in
set_option maxHeartbeats 2000000 in
theorem shutR_walk (K : Nat → Prop) (g cap : Nat) (f : Nat) : ∀ (M : Tr) (zs : List SZ) (cur : Array Value) (w : World) (k : Nat) (n : Node), Cop K w g cap cur zs → zs.map (·.x) = save M → M.length ≤ 64 → M[k]? = some (some n) → n.l.length ≤ 200 → ShutOk f M n.l →
    Calls Try.prog 60 #[.agg #[.slice (some ⟨g, 0, none⟩) M.length cap], .int .i64 k] w fun e w' => e = .returned (.tuple #[]) ∧ Grow1 g w w' ∧ ∃ cur' zs', Cop K w' g cap cur' zs' ∧ zs'.map (·.x) = save ((shut f M n.l).set k none) := by
  induction f with
  | zero => intro M zs cur w k n _ _ _ _ _ h; exact h.elim
  | succ f ih =>
    intro M zs cur w k n hC hs hm hk hlen hS
    have hkl := (List.getElem?_eq_some_iff.1 hk).1
    obtain ⟨z, hz, hzx⟩ := sz_at hs hk
    have hgl := lt_of_heap hC.row
    have hcl := hC.len
    have hcm := hC.most
    unfold maxLen at hcm
    have hzl : zs.length = M.length := by have := congrArg List.length hs; rw [List.length_map, save_length] at this; exact this
    rw [hzl] at hcl
    have hbx := below_box w (.cells #[.slice (some ⟨g, 0, none⟩) M.length cap] 28)
    have hC1 := hC.below hbx
    obtain ⟨_, _, _, p3, _, _⟩ := hC1.cell hz
    have hrow := hC1.rows k z hz
    have hnr : ∀ b, z.blk = some b → b ≠ g := fun b hb => hC1.not_row hz hb
    have hzl2 : z.x.l = n.l := by rw [hzx]; rfl
    have hRow := fun (j : Nat) (x : Item) (hj : n.l[j]? = some x) => row_at' hrow (j := j) (x := x) (by rw [hzl2]; exact hj)
    obtain ⟨hr1, hr2⟩ := row_len (RowK.of_row (K := fun _ => True) hrow fun _ _ => trivial)
    rw [hzl2] at p3 hr1
    have hs1 : (w.alloc (.cells #[.slice (some ⟨g, 0, none⟩) M.length cap] 28)).heap.size = w.heap.size + 1 := by simp
    have hbc : (w.alloc (.cells #[.slice (some ⟨g, 0, none⟩) M.length cap] 28)).cell? ⟨w.heap.size, 0, none⟩ = some (.slice (some ⟨g, 0, none⟩) M.length cap) := by rw [World.cell?_alloc_at _ _ _ _ rfl]; rfl
    have HI := Lib.hid ih
    have H := Lib.hid (And.intro hC1 (And.intro hs (And.intro hk (And.intro hS (And.intro hbx hRow)))))
    have hbg : w.heap.size ≠ g := by omega
    clear ih hC hs hC1 hk hS hbx hz hzx hzl hrow hRow hzl2
    generalize z.A = A at *
    generalize z.c = c at *
    go_enter Try.func60, Try.ntmps60
    go_wp2_with fail
    generalize (w.alloc (.cells #[.slice (some ⟨g, 0, none⟩) M.length cap] 28)) = W1 at *
    go_loopw [5] (fun i wr => ∃ j : Nat, j ≤ n.l.length ∧ i = .int .i64 j ∧ Grow1 g W1 wr ∧ ∃ cur' zs', Cop K wr g cap cur' zs' ∧ zs'.map (·.x) = save ((n.l.take j).foldl (shutStep f) M)) (fun i _ => n.l.length - (intOf i).toNat)
    case atStart => exact ⟨0, Nat.zero_le _, rfl, Grow1.refl _ _, cur, zs, H.out.1, H.out.2.1⟩
    case round =>
      obtain ⟨j, hj, rfl, hgr, cur', zs', hC, hs⟩ := hrel
      have hgs := hgr.size
      have r1 := (World.cell?_of_block (a := ⟨w.heap.size, 0, none⟩) (hgr.block _ (by show w.heap.size < _; omega) hbg)).trans hbc
      by_cases hlt : j < n.l.length
      · obtain ⟨x, hx⟩ : ∃ x, n.l[j]? = some x := ⟨_, List.getElem?_eq_getElem hlt⟩
        obtain ⟨g', o', rfl, hb', hg', _, _, k3⟩ := H.out.2.2.2.2.2 j x hx
        have hgg := hnr g' hb'
        replace k3 := (World.cell?_of_block (a := ⟨g', o' + j * 3 + 2, none⟩) (hgr.block g' hg' hgg)).trans k3
        have hft := fold_take f M n.l j x hx
        have hSx := H.out.2.2.2.1 j x hx
        have hfl := fold_length f (n.l.take j) M
        have HX := Lib.hid (And.intro hx hft)
        clear hx hft
        by_cases hc0 : 0 ≤ x.c
        · obtain ⟨q, hq, hql, hok⟩ := hSx hc0
          have hql2 : x.c.toNat < M.length := by rw [← hfl]; exact (List.getElem?_eq_some_iff.1 hq).1
          have hst : shutStep f ((n.l.take j).foldl (shutStep f) M) x = (shut f ((n.l.take j).foldl (shutStep f) M) q.l).set x.c.toNat none := by
            rw [shutStep, if_pos hc0, itemsOf, hq]
          have HCall := Lib.hid (fun w2 (h2 : Below wr.heap.size wr w2) => HI.out _ zs' cur' w2 x.c.toNat q (hC.below h2) hs (by rw [hfl]; exact hm) hq hql hok)
          rw [hfl] at HCall
          have HR := Lib.hid (And.intro hgr hst)
          clear hgr hC hs hSx hfl hq hok hst
          generalize hy : x.c = y at *
          obtain ⟨y, rfl⟩ := Int.eq_ofNat_of_zero_le hc0
          rw [Int.toNat_natCast] at HCall hql2
          have HY := Lib.hid hy
          clear hy hc0
          go_wp2_with fail
          go_region_held3 (fun w' => w'.cell? ⟨w.heap.size, 0, none⟩ = some (.slice (some ⟨g, 0, none⟩) M.length cap) ∧ w'.cell? ⟨g', o' + j * 3 + 2, none⟩ = some (.int .i64 y))
            (first | go_keep | (refine ⟨(World.cell?_of_block (a := ⟨w.heap.size, _, none⟩) (hg3.block _ ?_ hbg)).trans ?_, (World.cell?_of_block (a := ⟨g', _, none⟩) (hg3.block _ ?_ hgg)).trans ?_⟩ <;> first | (simp; omega) | go_keep))
            (first | (go_at_call 60; refine (HCall.out _ (by first | exact (Below.refl _ _).drew | exact Below.refl _ _)).mono ?_; rintro e w3 ⟨rfl, hg3, cur3, zs3, hC3, hs3⟩))
          go_wp2
          go_roundw
          case rel => exact ⟨j + 1, by omega, by go_num, HR.out.1.trans ((Grow1.refl g wr).drew.trans hg3), cur3, zs3, hC3, by rw [HX.out.2, HR.out.2, Int.toNat_natCast]; exact hs3⟩
          case measure => simp [intOf]; omega
        · have hst : shutStep f ((n.l.take j).foldl (shutStep f) M) x = (n.l.take j).foldl (shutStep f) M := by
            rw [shutStep, if_neg hc0]
          have HR := Lib.hid (And.intro hgr (And.intro hC (And.intro hs hst)))
          clear hgr hC hs hSx hfl hst
          go_wp2
          go_roundw
          case rel => exact ⟨j + 1, by omega, by go_num, HR.out.1, cur', zs', HR.out.2.1, by rw [HX.out.2, HR.out.2.2.2]; exact HR.out.2.2.1⟩
          case measure => simp [intOf]; omega
      · obtain rfl : j = n.l.length := by omega
        have hfl := fold_length f n.l M
        rw [List.take_length] at hs
        have hzl' : zs'.length = M.length := by have := congrArg List.length hs; rw [List.length_map, save_length, hfl] at this; exact this
        obtain ⟨z', hz'⟩ : ∃ z', zs'[k]? = some z' := ⟨_, List.getElem?_eq_getElem (by omega)⟩
        obtain ⟨d0, d1, d2, d3, d4, d5⟩ := hC.cell hz'
        have f0 := d5 (k * 5)
        have f1 := d5 (k * 5 + 1)
        have f2 := d5 (k * 5 + 2)
        have f3 := d5 (k * 5 + 3)
        have f4 := d5 (k * 5 + 4)
        obtain ⟨cur4, hC4⟩ := hC.close (i := k) (by omega)
        have hsh : shut (f + 1) M n.l = n.l.foldl (shutStep f) M := shut_fold _ _ _
        have HR := Lib.hid (And.intro hgr (And.intro hC4 (And.intro hs hsh)))
        clear hgr hC hs hfl hC4 hz' hzl' d5 hsh
        go_wp2
        go_end0
        refine ⟨rfl, (Grow1.trans ⟨H.out.2.2.2.2.1.os, H.out.2.2.2.2.1.tape, H.out.2.2.2.2.1.output, H.out.2.2.2.2.1.size, fun k hk _ => H.out.2.2.2.2.1.block k hk⟩ HR.out.1).trans (put5_grow wr g k (.int .i64 (-1)) (.int .i64 0) (.int .i64 0) (.slice none 0 0) (.bool true)), cur4, zs'.set k shutZ, HR.out.2.1, ?_⟩
        rw [HR.out.2.2.2, save_set_none, List.map_set, HR.out.2.2.1]
end Ne
end Go.Proofs.Ytllmddhahpegmaa
namespace Go.Proofs.Ytllmddhahpegmaa
open Go.RowKit
namespace Ne

/-- Each arena of the second list is that of the first one, or closed. -/
def Sub (zs zs' : List SZ) : Prop := ∀ (j : Nat) (y : SZ), zs'[j]? = some y → zs[j]? = some y ∨ y = shutZ
theorem Sub.refl (zs : List SZ) : Sub zs zs := fun _ _ h => .inl h
theorem Sub.trans {a b c : List SZ} (h : Sub a b) (k : Sub b c) : Sub a c := fun j y hy => by
  rcases k j y hy with h1 | h1
  · exact h j y h1
  · exact .inr h1
theorem Sub.set (zs : List SZ) (k : Nat) : Sub zs (zs.set k shutZ) := fun j y hy => by
  rw [List.getElem?_set] at hy
  split at hy
  · split at hy
    · injection hy with hy
      exact .inr hy.symm
    · cases hy
  · exact .inl hy

set_option maxRecDepth 100000 in
set_option maxHeartbeats 2000000 in
theorem shutR_sub (K : Nat → Prop) (g cap : Nat) (f : Nat) : ∀ (M : Tr) (zs : List SZ) (cur : Array Value) (w : World) (k : Nat) (n : Node), Cop K w g cap cur zs → zs.map (·.x) = save M → M.length ≤ 64 → M[k]? = some (some n) → n.l.length ≤ 200 → ShutOk f M n.l →
    Calls Try.prog 60 #[.agg #[.slice (some ⟨g, 0, none⟩) M.length cap], .int .i64 k] w fun e w' => e = .returned (.tuple #[]) ∧ Grow1 g w w' ∧ ∃ cur' zs', Cop K w' g cap cur' zs' ∧ zs'.map (·.x) = save ((shut f M n.l).set k none) ∧ Sub zs zs' := by
  induction f with
  | zero => intro M zs cur w k n _ _ _ _ _ h; exact h.elim
  | succ f ih =>
    intro M zs cur w k n hC hs hm hk hlen hS
    have hkl := (List.getElem?_eq_some_iff.1 hk).1
    obtain ⟨z, hz, hzx⟩ := sz_at hs hk
    have hgl := lt_of_heap hC.row
    have hcl := hC.len
    have hcm := hC.most
    unfold maxLen at hcm
    have hzl : zs.length = M.length := by have := congrArg List.length hs; rw [List.length_map, save_length] at this; exact this
    rw [hzl] at hcl
    have hbx := below_box w (.cells #[.slice (some ⟨g, 0, none⟩) M.length cap] 28)
    have hC1 := hC.below hbx
    obtain ⟨_, _, _, p3, _, _⟩ := hC1.cell hz
    have hrow := hC1.rows k z hz
    have hnr : ∀ b, z.blk = some b → b ≠ g := fun b hb => hC1.not_row hz hb
    have hzl2 : z.x.l = n.l := by rw [hzx]; rfl
    have hRow := fun (j : Nat) (x : Item) (hj : n.l[j]? = some x) => row_at' hrow (j := j) (x := x) (by rw [hzl2]; exact hj)
    obtain ⟨hr1, hr2⟩ := row_len (RowK.of_row (K := fun _ => True) hrow fun _ _ => trivial)
    rw [hzl2] at p3 hr1
    have hs1 : (w.alloc (.cells #[.slice (some ⟨g, 0, none⟩) M.length cap] 28)).heap.size = w.heap.size + 1 := by simp
    have hbc : (w.alloc (.cells #[.slice (some ⟨g, 0, none⟩) M.length cap] 28)).cell? ⟨w.heap.size, 0, none⟩ = some (.slice (some ⟨g, 0, none⟩) M.length cap) := by rw [World.cell?_alloc_at _ _ _ _ rfl]; rfl
    have HI := Lib.hid ih
    have H := Lib.hid (And.intro hC1 (And.intro hs (And.intro hk (And.intro hS (And.intro hbx hRow)))))
    have hbg : w.heap.size ≠ g := by omega
    clear ih hC hs hC1 hk hS hbx hz hzx hzl hrow hRow hzl2
    generalize z.A = A at *
    generalize z.c = c at *
    go_enter Try.func60, Try.ntmps60
    go_wp2_with fail
    generalize (w.alloc (.cells #[.slice (some ⟨g, 0, none⟩) M.length cap] 28)) = W1 at *
    go_loopw [5] (fun i wr => ∃ j : Nat, j ≤ n.l.length ∧ i = .int .i64 j ∧ Grow1 g W1 wr ∧ ∃ cur' zs', Cop K wr g cap cur' zs' ∧ zs'.map (·.x) = save ((n.l.take j).foldl (shutStep f) M) ∧ Sub zs zs') (fun i _ => n.l.length - (intOf i).toNat)
    case atStart => exact ⟨0, Nat.zero_le _, rfl, Grow1.refl _ _, cur, zs, H.out.1, H.out.2.1, Sub.refl _⟩
    case round =>
      obtain ⟨j, hj, rfl, hgr, cur', zs', hC, hs, hsub⟩ := hrel
      have HSub := Lib.hid hsub
      clear hsub
      have hgs := hgr.size
      have r1 := (World.cell?_of_block (a := ⟨w.heap.size, 0, none⟩) (hgr.block _ (by show w.heap.size < _; omega) hbg)).trans hbc
      by_cases hlt : j < n.l.length
      · obtain ⟨x, hx⟩ : ∃ x, n.l[j]? = some x := ⟨_, List.getElem?_eq_getElem hlt⟩
        obtain ⟨g', o', rfl, hb', hg', _, _, k3⟩ := H.out.2.2.2.2.2 j x hx
        have hgg := hnr g' hb'
        replace k3 := (World.cell?_of_block (a := ⟨g', o' + j * 3 + 2, none⟩) (hgr.block g' hg' hgg)).trans k3
        have hft := fold_take f M n.l j x hx
        have hSx := H.out.2.2.2.1 j x hx
        have hfl := fold_length f (n.l.take j) M
        have HX := Lib.hid (And.intro hx hft)
        clear hx hft
        by_cases hc0 : 0 ≤ x.c
        · obtain ⟨q, hq, hql, hok⟩ := hSx hc0
          have hql2 : x.c.toNat < M.length := by rw [← hfl]; exact (List.getElem?_eq_some_iff.1 hq).1
          have hst : shutStep f ((n.l.take j).foldl (shutStep f) M) x = (shut f ((n.l.take j).foldl (shutStep f) M) q.l).set x.c.toNat none := by
            rw [shutStep, if_pos hc0, itemsOf, hq]
          have HCall := Lib.hid (fun w2 (h2 : Below wr.heap.size wr w2) => HI.out _ zs' cur' w2 x.c.toNat q (hC.below h2) hs (by rw [hfl]; exact hm) hq hql hok)
          rw [hfl] at HCall
          have HR := Lib.hid (And.intro hgr hst)
          clear hgr hC hs hSx hfl hq hok hst
          generalize hy : x.c = y at *
          obtain ⟨y, rfl⟩ := Int.eq_ofNat_of_zero_le hc0
          rw [Int.toNat_natCast] at HCall hql2
          have HY := Lib.hid hy
          clear hy hc0
          go_wp2_with fail
          go_region_held3 (fun w' => w'.cell? ⟨w.heap.size, 0, none⟩ = some (.slice (some ⟨g, 0, none⟩) M.length cap) ∧ w'.cell? ⟨g', o' + j * 3 + 2, none⟩ = some (.int .i64 y))
            (first | go_keep | (refine ⟨(World.cell?_of_block (a := ⟨w.heap.size, _, none⟩) (hg3.block _ ?_ hbg)).trans ?_, (World.cell?_of_block (a := ⟨g', _, none⟩) (hg3.block _ ?_ hgg)).trans ?_⟩ <;> first | (simp; omega) | go_keep))
            (first | (go_at_call 60; refine (HCall.out _ (by first | exact (Below.refl _ _).drew | exact Below.refl _ _)).mono ?_; rintro e w3 ⟨rfl, hg3, cur3, zs3, hC3, hs3, hsub3⟩))
          go_wp2
          go_roundw
          case rel => exact ⟨j + 1, by omega, by go_num, HR.out.1.trans ((Grow1.refl g wr).drew.trans hg3), cur3, zs3, hC3, by rw [HX.out.2, HR.out.2, Int.toNat_natCast]; exact hs3, HSub.out.trans hsub3⟩
          case measure => simp [intOf]; omega
        · have hst : shutStep f ((n.l.take j).foldl (shutStep f) M) x = (n.l.take j).foldl (shutStep f) M := by
            rw [shutStep, if_neg hc0]
          have HR := Lib.hid (And.intro hgr (And.intro hC (And.intro hs hst)))
          clear hgr hC hs hSx hfl hst
          go_wp2
          go_roundw
          case rel => exact ⟨j + 1, by omega, by go_num, HR.out.1, cur', zs', HR.out.2.1, by rw [HX.out.2, HR.out.2.2.2]; exact HR.out.2.2.1, HSub.out⟩
          case measure => simp [intOf]; omega
      · obtain rfl : j = n.l.length := by omega
        have hfl := fold_length f n.l M
        rw [List.take_length] at hs
        have hzl' : zs'.length = M.length := by have := congrArg List.length hs; rw [List.length_map, save_length, hfl] at this; exact this
        obtain ⟨z', hz'⟩ : ∃ z', zs'[k]? = some z' := ⟨_, List.getElem?_eq_getElem (by omega)⟩
        obtain ⟨d0, d1, d2, d3, d4, d5⟩ := hC.cell hz'
        have f0 := d5 (k * 5)
        have f1 := d5 (k * 5 + 1)
        have f2 := d5 (k * 5 + 2)
        have f3 := d5 (k * 5 + 3)
        have f4 := d5 (k * 5 + 4)
        obtain ⟨cur4, hC4⟩ := hC.close (i := k) (by omega)
        have hsh : shut (f + 1) M n.l = n.l.foldl (shutStep f) M := shut_fold _ _ _
        have HR := Lib.hid (And.intro hgr (And.intro hC4 (And.intro hs hsh)))
        clear hgr hC hs hfl hC4 hz' hzl' d5 hsh
        go_wp2
        go_end0
        refine ⟨rfl, (Grow1.trans ⟨H.out.2.2.2.2.1.os, H.out.2.2.2.2.1.tape, H.out.2.2.2.2.1.output, H.out.2.2.2.2.1.size, fun k hk _ => H.out.2.2.2.2.1.block k hk⟩ HR.out.1).trans (put5_grow wr g k (.int .i64 (-1)) (.int .i64 0) (.int .i64 0) (.slice none 0 0) (.bool true)), cur4, zs'.set k shutZ, HR.out.2.1, ?_, HSub.out.trans (Sub.set _ _)⟩
        rw [HR.out.2.2.2, save_set_none, List.map_set, HR.out.2.2.1]
end Ne
end Go.Proofs.Ytllmddhahpegmaa
namespace Go.Proofs.Ytllmddhahpegmaa
open Go.RowKit
namespace Ne

theorem Cop.take {K : Nat → Prop} {w : World} {g cap : Nat} {cur : Array Value} {zs : List SZ} (h : Cop K w g cap cur zs) (m : Nat) : Cop K w g cap cur (zs.take m) := by
  have hget : ∀ (j : Nat) (y : SZ), (zs.take m)[j]? = some y → zs[j]? = some y := fun j y hj => by
    rw [List.getElem?_take] at hj
    split at hj
    · exact hj
    · cases hj
  refine ⟨h.low, h.row, h.size, ?_, h.most, fun j y hj => h.cells j y (hget j y hj), fun j y hj => h.rows j y (hget j y hj), fun j y b hj => h.own j y b (hget j y hj), fun i j a b hne ha hb => h.apart i j a b hne (hget i a ha) (hget j b hb)⟩
  have := h.len
  rw [List.length_take]
  omega

/-- An arena with less items. -/
def cutZ (z : SZ) (m : Nat) : SZ := ⟨{ z.x with l := z.x.l.take m }, z.A, z.c⟩

theorem cutZ_val (z : SZ) (m : Nat) (hm : m ≤ z.x.l.length) : (cutZ z m).val = .slice z.A m z.c := by
  simp [cutZ, SZ.val, Nat.min_eq_left hm]
theorem cutZ_blk (z : SZ) (m : Nat) : (cutZ z m).blk = z.blk := by
  unfold SZ.blk SZ.val cutZ
  cases z.A <;> rfl

/-- The slice of an arena's items is written shorter. -/
theorem Cop.cut {K : Nat → Prop} {w : World} {g cap : Nat} {cur : Array Value} {zs : List SZ} (h : Cop K w g cap cur zs) {i : Nat} {z : SZ} (hz : zs[i]? = some z) (m : Nat) (hm : m ≤ z.x.l.length) :
    ∃ cur', Cop K (w.setCell ⟨g, i * 5 + 3, none⟩ (.slice z.A m z.c)) g cap cur' (zs.set i (cutZ z m)) := by
  have hi := (List.getElem?_eq_some_iff.1 hz).1
  have hsz := h.size
  have hln := h.len
  obtain ⟨k0, k1, k2, k3, k4⟩ := h.cells i z hz
  have hat := setCell_at w g (i * 5 + 3) _ 35 (.slice z.A m z.c) h.row
  refine ⟨_, h.put hi hat (by simp) (fun m hm => by rw [Array.getElem?_setIfInBounds, if_neg (by omega)]) ⟨?_, ?_, ?_, ?_, ?_⟩ ?_ (fun b hb => ?_) (fun j y hne hj b hb => ?_) fun j y b hne hj hb => ?_⟩
  · rw [Array.getElem?_setIfInBounds, if_neg (by omega)]; exact k0
  · rw [Array.getElem?_setIfInBounds, if_neg (by omega)]; exact k1
  · rw [Array.getElem?_setIfInBounds, if_neg (by omega)]; exact k2
  · rw [Array.getElem?_setIfInBounds, if_pos rfl, if_pos (by omega), cutZ_val z m hm]
  · rw [Array.getElem?_setIfInBounds, if_neg (by omega)]; exact k4
  · have hp := row_prefix (h.rows i z hz) hm
    rw [cutZ_val z m hm]
    exact row_same hp fun b hb => setCell_far _ _ _ _ (h.not_row hz (b := b) (by
      unfold SZ.blk SZ.val
      cases hA : z.A with
      | none => rw [hA] at hb; cases hb
      | some a => rw [hA] at hb; exact hb))
  · rw [cutZ_blk] at hb
    exact h.own i z b hz hb
  · rw [cutZ_blk] at hb
    exact h.apart i j z y (fun e => hne e.symm) hz hj b hb
  · exact setCell_far _ _ _ _ (h.not_row hj hb)

set_option maxRecDepth 100000 in
set_option maxHeartbeats 2000000 in
theorem tidyR_walk (K : Nat → Prop) (g cap : Nat) (M : Tr) (zs : List SZ) (cur : Array Value) (w : World) (k : Nat) (n : Node) (hC : Cop K w g cap cur zs) (hs : zs.map (·.x) = save M) (hm : M.length ≤ 64) (hk : M[k]? = some (some n)) (hlen : n.l.length ≤ 200) (hKw : ∀ b, K b → b < w.heap.size) :
    Calls Try.prog 61 #[.agg #[.slice (some ⟨g, 0, none⟩) M.length cap], .int .i64 k] w fun e w' => ∃ cur' zs', e = .returned (.agg #[.slice (some ⟨g, 0, none⟩) zs'.length cap]) ∧ Grow1 g w w' ∧ Cop K w' g cap cur' zs' ∧ zs'.map (·.x) = save (trim (M.set k (some { n with l := tidy n.l }))) := by
  have hkl := (List.getElem?_eq_some_iff.1 hk).1
  obtain ⟨z, hz, hzx⟩ := sz_at hs hk
  have hgl := lt_of_heap hC.row
  have hcl := hC.len
  have hcm := hC.most
  unfold maxLen at hcm
  have hzl : zs.length = M.length := by have := congrArg List.length hs; rw [List.length_map, save_length] at this; exact this
  rw [hzl] at hcl
  have hzl2 : z.x.l = n.l := by rw [hzx]; rfl
  obtain ⟨hr1, hr2⟩ := row_len (RowK.of_row (K := fun _ => True) (hC.rows k z hz) fun _ _ => trivial)
  rw [hzl2] at hr1
  have HTid := Lib.hid (fun m hm h1 h2 => tidy_take n.l m hm h1 h2)
  have H := Lib.hid (And.intro hC (And.intro hs (And.intro hk (And.intro hz (And.intro hzx hzl2)))))
  clear hC hs hk hz hzx
  have hbox2 : ∀ o1 o2, ((w.alloc o1).alloc o2).heap.size = w.heap.size + 2 := fun o1 o2 => by simp
  go_enter Try.func61, Try.ntmps61
  go_wp2_with fail
  have hW2 : ∃ W2, W2 = (w.alloc (.cells #[.slice (some ⟨g, 0, none⟩) M.length cap] 28)).alloc (.cells #[.slice none 0 0] 28) := ⟨_, rfl⟩
  obtain ⟨W2, hW2⟩ := hW2
  rw [← hW2]
  have hsz2 : W2.heap.size = w.heap.size + 2 := by rw [hW2]; simp
  have hbx0 : W2.heap[w.heap.size]? = some (.cells #[.slice (some ⟨g, 0, none⟩) M.length cap] 28 (0, 0)) := by rw [hW2, heapAlloc, if_neg (by simp), heapAlloc, if_pos rfl]
  have hbx1 : W2.heap[w.heap.size + 1]? = some (.cells #[.slice none 0 0] 28 (0, 0)) := by rw [hW2, heapAlloc, if_pos (by simp)]
  have hB2 : Below w.heap.size w W2 := by rw [hW2]; exact (below_box w _).trans ((below_box _ _).mono (by simp))
  have HW := Lib.hid (And.intro hbx0 (And.intro hbx1 hB2))
  clear hW2 hbx0 hbx1 hB2 hbox2
  go_loopw [10] (fun _ wr => Grow1 g W2 wr ∧ ∃ m, m ≤ n.l.length ∧ (∃ cur', Cop K wr g cap cur' (zs.set k (cutZ z m))) ∧ ∀ j x, m ≤ j → n.l[j]? = some x → x.c = -2) (fun _ wr => lenOf ((wr.cell? ⟨g, k * 5 + 3, none⟩).getD undef))
  case atStart =>
    refine ⟨Grow1.refl _ _, n.l.length, Nat.le_refl _, ⟨cur, ?_⟩, fun j x hj hx => by rw [List.getElem?_eq_none hj] at hx; cases hx⟩
    have e1 : cutZ z n.l.length = z := by
      have : z.x.l.take n.l.length = z.x.l := by rw [H.out.2.2.2.2.2, List.take_length]
      unfold cutZ
      rw [this]
    have e2 : zs.set k z = zs := by
      obtain ⟨h1, h2⟩ := List.getElem?_eq_some_iff.1 H.out.2.2.2.1
      rw [← h2]
      exact List.set_getElem_self h1
    rw [e1, e2]
    exact H.out.1.below HW.out.2.2
  case round =>
    obtain ⟨hgr, m, hm2, ⟨cur', hC⟩, hall⟩ := hrel
    have hgs := hgr.size
    have hz2 : (zs.set k (cutZ z m))[k]? = some (cutZ z m) := List.getElem?_set_self (by rw [hzl]; exact hkl)
    obtain ⟨_, _, _, d3, _, d5⟩ := hC.cell hz2
    have hml : (cutZ z m).x.l.length = m := by
      show (z.x.l.take m).length = m
      rw [hzl2, List.length_take, Nat.min_eq_left hm2]
    rw [hml] at d3
    replace d3 : wr.cell? ⟨g, k * 5 + 3, none⟩ = some (.slice z.A m z.c) := d3
    have d6 := d5 (k * 5 + 3)
    have HR := Lib.hid (And.intro hgr (And.intro hC hall))
    clear hgr hC hall d5 hml
    by_cases hm0 : m = 0
    · subst hm0
      go_wp2_with fail
      go_quiet (fail)
      go_wp2_with fail
      have htt : Grow1 g W2 (wr.drewN nq) ∧ (∃ cur1, Cop K (wr.drewN nq) g cap cur1 (zs.set k (cutZ z 0))) ∧ tidy n.l = n.l.take 0 :=
        ⟨HR.out.1.trans ⟨rfl, rfl, rfl, Nat.le_refl _, fun _ _ _ => rfl⟩, ⟨cur', HR.out.2.1.keep fun k hk _ => ⟨rfl, hk⟩⟩, HTid.out 0 (Nat.zero_le _) HR.out.2.2 (.inl rfl)⟩
      clear d3 d6 hz2
      obtain ⟨hgr1, hC1, ht⟩ : Grow1 g W2 (wr.drewN nq) ∧ (∃ cur1, Cop K (wr.drewN nq) g cap cur1 (zs.set k (cutZ z 0))) ∧ tidy n.l = n.l.take 0 := htt
      obtain ⟨cur1, hC1⟩ := hC1
      have hmap1 : (zs.set k (cutZ z 0)).map (·.x) = save (M.set k (some { n with l := tidy n.l })) := by
        rw [List.map_set, H.out.2.1]
        have e1 : (cutZ z 0).x = saveNode (some { n with l := tidy n.l }) := by
          have hzx := H.out.2.2.2.2.1
          unfold cutZ
          rw [hzx, ht]
          rfl
        rw [e1]
        simp [save, List.map_set]
      obtain ⟨M1, hM1⟩ : ∃ M1, M1 = M.set k (some { n with l := tidy n.l }) := ⟨_, rfl⟩
      obtain ⟨zs1, hzs1⟩ : ∃ zs1, zs1 = zs.set k (cutZ z 0) := ⟨_, rfl⟩
      rw [← hM1, ← hzs1] at hmap1
      rw [← hzs1] at hC1
      have hl1 : M1.length = M.length := by rw [hM1]; simp
      have hlz1 : zs1.length = M.length := by rw [hzs1]; simp [hzl]
      have hk1 : ∃ (j : Nat) (q : Node), M1[j]? = some (some q) := ⟨k, _, by rw [hM1]; exact List.getElem?_set_self hkl⟩
      obtain ⟨m1, ha1, ha2, ha3, ha4, ha5⟩ := trim_exists M1 hk1
      have hgs1 := hgr1.size
      have hb0 : (wr.drewN nq).heap[w.heap.size]? = some (.cells #[.slice (some ⟨g, 0, none⟩) M.length cap] 28 (0, 0)) := (hgr1.block _ (by omega) (by omega)).trans HW.out.1
      have hb1 : (wr.drewN nq).heap[w.heap.size + 1]? = some (.cells #[.slice none 0 0] 28 (0, 0)) := (hgr1.block _ (by omega) (by omega)).trans HW.out.2.1
      have HF := Lib.hid (And.intro hgr1 (And.intro hC1 (And.intro hmap1 (And.intro ha3 (And.intro ha4 (And.intro ha5 (And.intro hb0 (And.intro hb1 (And.intro hM1 ht)))))))))
      rw [hl1] at ha2
      clear hgr1 hC1 ht hmap1 hM1 hzs1 hk1 ha3 ha4 ha5 hb0 hb1
      generalize wr.drewN nq = W3 at *
      go_loopw [46] (fun _ wr => ∃ q, m1 ≤ q ∧ q ≤ M.length ∧ wr.heap[w.heap.size]? = some (.cells #[.slice (some ⟨g, 0, none⟩) q cap] 28 (0, 0)) ∧ Only w.heap.size W3 wr) (fun _ wr => lenOf ((wr.cell? ⟨w.heap.size, 0, none⟩).getD undef))
      case atStart => exact ⟨M.length, ha2, Nat.le_refl _, HF.out.2.2.2.2.2.2.1, Only.refl _ _⟩
      case round =>
        obtain ⟨q, hq1, hq2, hbox, ho⟩ := hrel
        obtain ⟨q, rfl⟩ : ∃ p, q = p + 1 := ⟨q - 1, by omega⟩
        obtain ⟨o, hoq⟩ : ∃ o, M1[q]? = some o := ⟨_, List.getElem?_eq_getElem (by omega)⟩
        obtain ⟨y, hy, hyx⟩ := sz_at HF.out.2.2.1 hoq
        obtain ⟨_, _, _, _, p4, _⟩ := HF.out.2.1.cell hy
        rw [hyx] at p4
        replace p4 := (ho.cell (p := ⟨g, q * 5 + 4, none⟩) (by show g ≠ w.heap.size; omega)).trans p4
        have hbc : wr.cell? ⟨w.heap.size, 0, none⟩ = some (.slice (some ⟨g, 0, none⟩) (q + 1) cap) := by simp [World.cell?, hbox]
        have hbf : wr.frozen? ⟨w.heap.size, 0, none⟩ = false := by simp [World.frozen?, hbox]
        have HO := Lib.hid (And.intro ho (And.intro hbox hbc))
        have HOQ := Lib.hid hoq
        clear ho hbox hy hyx hoq
        by_cases hqm : m1 ≤ q
        · have hon : o = none := by
            have := HF.out.2.2.2.2.1 q hqm (by omega)
            rw [HOQ.out] at this
            injection this
          subst hon
          replace p4 : wr.cell? ⟨g, q * 5 + 4, none⟩ = some (.bool true) := p4
          go_wp2
          go_roundw
          case rel => exact ⟨q, hqm, by omega, by rw [setCell_at _ _ _ _ _ _ HO.out.2.1]; rfl, HO.out.1.setCell _ _⟩
          case measure =>
            have h9 := setCell_at wr w.heap.size 0 _ _ (.slice (some ⟨g, 0, none⟩) q cap) HO.out.2.1
            have h8 : (wr.setCell ⟨w.heap.size, 0, none⟩ (.slice (some ⟨g, 0, none⟩) q cap)).cell? ⟨w.heap.size, 0, none⟩ = some (.slice (some ⟨g, 0, none⟩) q cap) := by simp [World.cell?, h9]
            rw [HO.out.2.2, h8]
            simp [lenOf]
        · obtain rfl : m1 = q + 1 := by omega
          obtain ⟨y, rfl⟩ : ∃ y, o = some y := by
            cases o with
            | some y => exact ⟨y, rfl⟩
            | none => exact absurd HOQ.out HF.out.2.2.2.2.2.1
          replace p4 : wr.cell? ⟨g, q * 5 + 4, none⟩ = some (.bool false) := p4
          have hres : wr.heap[w.heap.size + 1]? = some (.cells #[.slice none 0 0] 28 (0, 0)) := (HO.out.1.block _ (by omega)).trans HF.out.2.2.2.2.2.2.2.1
          have hrc : wr.cell? ⟨w.heap.size + 1, 0, none⟩ = some (.slice none 0 0) := by simp [World.cell?, hres]
          have hrf : wr.frozen? ⟨w.heap.size + 1, 0, none⟩ = false := by simp [World.frozen?, hres]
          have HRS := Lib.hid hres
          clear hres
          go_wp2
          have h9 := setCell_at wr (w.heap.size + 1) 0 _ _ (.slice (some ⟨g, 0, none⟩) (q + 1) cap) HRS.out
          have hcr : (wr.setCell ⟨w.heap.size + 1, 0, none⟩ (.slice (some ⟨g, 0, none⟩) (q + 1) cap)).cell? ⟨w.heap.size + 1, 0, none⟩ = some (.slice (some ⟨g, 0, none⟩) (q + 1) cap) := by simp [World.cell?, h9]
          have hlt : (zs1.take (q + 1)).length = q + 1 := by rw [List.length_take, hlz1]; omega
          have hgw : Grow1 g w (wr.setCell ⟨w.heap.size + 1, 0, none⟩ (.slice (some ⟨g, 0, none⟩) (q + 1) cap)) := by
            have h1 := HW.out.2.2
            have h2 := HF.out.1
            have h3 := HO.out.1
            refine ⟨h3.os.trans (h2.os.trans h1.os), h3.tape.trans (h2.tape.trans h1.tape), h3.output.trans (h2.output.trans h1.output), by rw [setCell_size, h3.size]; have := h2.size; have := h1.size; omega, fun b hb hbg => ?_⟩
            rw [setCell_far _ _ _ _ (by show b ≠ w.heap.size + 1; omega), h3.block b (by omega), h2.block b (by omega) hbg, h1.block b hb]
          have hCf : Cop K (wr.setCell ⟨w.heap.size + 1, 0, none⟩ (.slice (some ⟨g, 0, none⟩) (q + 1) cap)) g cap cur1 (zs1.take (q + 1)) := by
            refine (HF.out.2.1.take (q + 1)).keep fun b hb _ => ⟨?_, hb⟩
            have := hKw b hb
            rw [setCell_far _ _ _ _ (by show b ≠ w.heap.size + 1; omega), HO.out.1.block b (by omega)]
          have hmf : (zs1.take (q + 1)).map (·.x) = save (trim (M.set k (some { n with l := tidy n.l }))) := by
            rw [← HF.out.2.2.2.2.2.2.2.2.1, HF.out.2.2.2.1, List.map_take, HF.out.2.2.1]
            unfold save
            rw [List.map_take]
          refine bodyPost_ret (v := .agg #[.slice (some ⟨g, 0, none⟩) (q + 1) cap]) (by simp [results, Try.results61, go_sem, hcr]) rfl ?_
          exact ⟨cur1, zs1.take (q + 1), by rw [hlt], hgw, hCf, hmf⟩
    · obtain ⟨j, rfl⟩ : ∃ j, m = j + 1 := ⟨m - 1, by omega⟩
      obtain ⟨x, hx⟩ : ∃ x, n.l[j]? = some x := ⟨_, List.getElem?_eq_getElem (by omega)⟩
      have hrow := HR.out.2.1.rows k _ hz2
      obtain ⟨g', o', hA, hb', hg', _, _, k3⟩ := row_at' (z := cutZ z (j + 1)) hrow (j := j) (x := x) (by show (z.x.l.take (j + 1))[j]? = some x; rw [hzl2, List.getElem?_take, if_pos (by omega)]; exact hx)
      replace hA : z.A = some ⟨g', o', none⟩ := hA
      rw [hA] at d3
      have hgg := HR.out.2.1.not_row hz2 hb'
      have HX := Lib.hid (And.intro hx (And.intro hA hb'))
      clear hx hA hb' hrow hz2
      generalize hzc : z.c = c at *
      have HZC := Lib.hid hzc
      clear hzc
      have D3 := Lib.hid d3
      by_cases hc : x.c = -2
      · rw [hc] at k3
        have HCc := Lib.hid hc
        clear hc
        go_wp2_with fail
        go_quiet (fail)
        go_wp2_with fail
        replace d3 : (wr.drewN nq).cell? ⟨g, k * 5 + 3, none⟩ = some (.slice (some ⟨g', o', none⟩) (j + 1) c) := d3
        replace d6 : (wr.drewN nq).frozen? ⟨g, k * 5 + 3, none⟩ = false := d6
        have hg1 : Grow1 g wr (wr.drewN nq) := ⟨rfl, rfl, rfl, Nat.le_refl _, fun _ _ _ => rfl⟩
        have hCq : Cop K (wr.drewN nq) g cap cur' (zs.set k (cutZ z (j + 1))) := HR.out.2.1.keep fun k hk _ => ⟨rfl, hk⟩
        have HQ := Lib.hid (And.intro hg1 hCq)
        clear hg1 hCq
        generalize wr.drewN nq = wq at *
        go_region
        have hzs : (zs.set k (cutZ z (j + 1)))[k]? = some (cutZ z (j + 1)) := List.getElem?_set_self (by rw [hzl]; exact hkl)
        have h5 := Cop.cut HQ.out.2 hzs j (by show j ≤ (z.x.l.take (j + 1)).length; rw [hzl2, List.length_take]; omega)
        have e1 : cutZ (cutZ z (j + 1)) j = cutZ z j := by
          unfold cutZ
          simp only [List.take_take, Nat.min_eq_left (Nat.le_succ j)]
        have e2 : (cutZ z (j + 1)).A = some ⟨g', o', none⟩ := HX.out.2.1
        have e3 : (cutZ z (j + 1)).c = c := HZC.out
        rw [List.set_set, e1, e2, e3] at h5
        obtain ⟨cur5, h5⟩ := h5
        have hz5 : (zs.set k (cutZ z j))[k]? = some (cutZ z j) := List.getElem?_set_self (by rw [hzl]; exact hkl)
        have hv5 : (cutZ z j).val = .slice (some ⟨g', o', none⟩) j c := by rw [cutZ_val z j (by rw [hzl2]; omega), HX.out.2.1, HZC.out]
        have c5 := (h5.cell hz5).2.2.2.1
        replace c5 := c5.trans (congrArg some (show (cutZ z j).val = _ from hv5))
        have H5 := Lib.hid (And.intro h5 c5)
        clear h5 c5 e1 e2 e3 hzs hz5 hv5
        go_roundw
        case rel =>
          refine ⟨_, _, _, _, _, _, _, _, _, _, _, _, _, _, _, _, _, _, _, _, _, _, _, _, _, _, _, _, _, _, _, _, _, _, _, _, ⟨HR.out.1.trans (HQ.out.1.trans ((Grow1.refl g wq).setCell _ _).drew), j, by omega, ⟨cur5, H5.out.1.keep fun k hk _ => ⟨rfl, hk⟩⟩, fun i y hi hy => ?_⟩, rfl⟩
          by_cases e : i = j
          · subst e
            rw [HX.out.1] at hy
            injection hy with hy
            rw [← hy]; exact HCc.out
          · exact HR.out.2.2 i y (by omega) hy
        case measure =>
          rw [D3.out]
          show lenOf (((wq.setCell ⟨g, k * 5 + 3, none⟩ (.slice (some ⟨g', o', none⟩) j c)).cell? ⟨g, k * 5 + 3, none⟩).getD undef) < _
          rw [H5.out.2]
          simp [lenOf]
      · have hcb : (x.c == -2) = false := by rw [beq_eq_false_iff_ne]; exact hc
        have HCc := Lib.hid hc
        clear hc
        go_wp2_with fail
        go_quiet (fail)
        go_wp2_with fail
        have htt : Grow1 g W2 (wr.drewN nq) ∧ (∃ cur1, Cop K (wr.drewN nq) g cap cur1 (zs.set k (cutZ z (j + 1)))) ∧ tidy n.l = n.l.take (j + 1) :=
          ⟨HR.out.1.trans ⟨rfl, rfl, rfl, Nat.le_refl _, fun _ _ _ => rfl⟩, ⟨cur', HR.out.2.1.keep fun k hk _ => ⟨rfl, hk⟩⟩, HTid.out (j + 1) (by omega) HR.out.2.2 (.inr ⟨x, HX.out.1, HCc.out⟩)⟩
        clear d3 d6 D3 k3 hcb
        obtain ⟨hgr1, hC1, ht⟩ : Grow1 g W2 (wr.drewN nq) ∧ (∃ cur1, Cop K (wr.drewN nq) g cap cur1 (zs.set k (cutZ z (j + 1)))) ∧ tidy n.l = n.l.take (j + 1) := htt
        obtain ⟨cur1, hC1⟩ := hC1
        have hmap1 : (zs.set k (cutZ z (j + 1))).map (·.x) = save (M.set k (some { n with l := tidy n.l })) := by
          rw [List.map_set, H.out.2.1]
          have e1 : (cutZ z (j + 1)).x = saveNode (some { n with l := tidy n.l }) := by
            have hzx := H.out.2.2.2.2.1
            unfold cutZ
            rw [hzx, ht]
            rfl
          rw [e1]
          simp [save, List.map_set]
        obtain ⟨M1, hM1⟩ : ∃ M1, M1 = M.set k (some { n with l := tidy n.l }) := ⟨_, rfl⟩
        obtain ⟨zs1, hzs1⟩ : ∃ zs1, zs1 = zs.set k (cutZ z (j + 1)) := ⟨_, rfl⟩
        rw [← hM1, ← hzs1] at hmap1
        rw [← hzs1] at hC1
        have hl1 : M1.length = M.length := by rw [hM1]; simp
        have hlz1 : zs1.length = M.length := by rw [hzs1]; simp [hzl]
        have hk1 : ∃ (j : Nat) (q : Node), M1[j]? = some (some q) := ⟨k, _, by rw [hM1]; exact List.getElem?_set_self hkl⟩
        obtain ⟨m1, ha1, ha2, ha3, ha4, ha5⟩ := trim_exists M1 hk1
        have hgs1 := hgr1.size
        have hb0 : (wr.drewN nq).heap[w.heap.size]? = some (.cells #[.slice (some ⟨g, 0, none⟩) M.length cap] 28 (0, 0)) := (hgr1.block _ (by omega) (by omega)).trans HW.out.1
        have hb1 : (wr.drewN nq).heap[w.heap.size + 1]? = some (.cells #[.slice none 0 0] 28 (0, 0)) := (hgr1.block _ (by omega) (by omega)).trans HW.out.2.1
        have HF := Lib.hid (And.intro hgr1 (And.intro hC1 (And.intro hmap1 (And.intro ha3 (And.intro ha4 (And.intro ha5 (And.intro hb0 (And.intro hb1 (And.intro hM1 ht)))))))))
        rw [hl1] at ha2
        clear hgr1 hC1 ht hmap1 hM1 hzs1 hk1 ha3 ha4 ha5 hb0 hb1
        generalize wr.drewN nq = W3 at *
        go_loopw [46] (fun _ wr => ∃ q, m1 ≤ q ∧ q ≤ M.length ∧ wr.heap[w.heap.size]? = some (.cells #[.slice (some ⟨g, 0, none⟩) q cap] 28 (0, 0)) ∧ Only w.heap.size W3 wr) (fun _ wr => lenOf ((wr.cell? ⟨w.heap.size, 0, none⟩).getD undef))
        case atStart => exact ⟨M.length, ha2, Nat.le_refl _, HF.out.2.2.2.2.2.2.1, Only.refl _ _⟩
        case round =>
          obtain ⟨q, hq1, hq2, hbox, ho⟩ := hrel
          obtain ⟨q, rfl⟩ : ∃ p, q = p + 1 := ⟨q - 1, by omega⟩
          obtain ⟨o, hoq⟩ : ∃ o, M1[q]? = some o := ⟨_, List.getElem?_eq_getElem (by omega)⟩
          obtain ⟨y, hy, hyx⟩ := sz_at HF.out.2.2.1 hoq
          obtain ⟨_, _, _, _, p4, _⟩ := HF.out.2.1.cell hy
          rw [hyx] at p4
          replace p4 := (ho.cell (p := ⟨g, q * 5 + 4, none⟩) (by show g ≠ w.heap.size; omega)).trans p4
          have hbc : wr.cell? ⟨w.heap.size, 0, none⟩ = some (.slice (some ⟨g, 0, none⟩) (q + 1) cap) := by simp [World.cell?, hbox]
          have hbf : wr.frozen? ⟨w.heap.size, 0, none⟩ = false := by simp [World.frozen?, hbox]
          have HO := Lib.hid (And.intro ho (And.intro hbox hbc))
          have HOQ := Lib.hid hoq
          clear ho hbox hy hyx hoq
          by_cases hqm : m1 ≤ q
          · have hon : o = none := by
              have := HF.out.2.2.2.2.1 q hqm (by omega)
              rw [HOQ.out] at this
              injection this
            subst hon
            replace p4 : wr.cell? ⟨g, q * 5 + 4, none⟩ = some (.bool true) := p4
            go_wp2
            go_roundw
            case rel => exact ⟨q, hqm, by omega, by rw [setCell_at _ _ _ _ _ _ HO.out.2.1]; rfl, HO.out.1.setCell _ _⟩
            case measure =>
              have h9 := setCell_at wr w.heap.size 0 _ _ (.slice (some ⟨g, 0, none⟩) q cap) HO.out.2.1
              have h8 : (wr.setCell ⟨w.heap.size, 0, none⟩ (.slice (some ⟨g, 0, none⟩) q cap)).cell? ⟨w.heap.size, 0, none⟩ = some (.slice (some ⟨g, 0, none⟩) q cap) := by simp [World.cell?, h9]
              rw [HO.out.2.2, h8]
              simp [lenOf]
          · obtain rfl : m1 = q + 1 := by omega
            obtain ⟨y, rfl⟩ : ∃ y, o = some y := by
              cases o with
              | some y => exact ⟨y, rfl⟩
              | none => exact absurd HOQ.out HF.out.2.2.2.2.2.1
            replace p4 : wr.cell? ⟨g, q * 5 + 4, none⟩ = some (.bool false) := p4
            have hres : wr.heap[w.heap.size + 1]? = some (.cells #[.slice none 0 0] 28 (0, 0)) := (HO.out.1.block _ (by omega)).trans HF.out.2.2.2.2.2.2.2.1
            have hrc : wr.cell? ⟨w.heap.size + 1, 0, none⟩ = some (.slice none 0 0) := by simp [World.cell?, hres]
            have hrf : wr.frozen? ⟨w.heap.size + 1, 0, none⟩ = false := by simp [World.frozen?, hres]
            have HRS := Lib.hid hres
            clear hres
            go_wp2
            have h9 := setCell_at wr (w.heap.size + 1) 0 _ _ (.slice (some ⟨g, 0, none⟩) (q + 1) cap) HRS.out
            have hcr : (wr.setCell ⟨w.heap.size + 1, 0, none⟩ (.slice (some ⟨g, 0, none⟩) (q + 1) cap)).cell? ⟨w.heap.size + 1, 0, none⟩ = some (.slice (some ⟨g, 0, none⟩) (q + 1) cap) := by simp [World.cell?, h9]
            have hlt : (zs1.take (q + 1)).length = q + 1 := by rw [List.length_take, hlz1]; omega
            have hgw : Grow1 g w (wr.setCell ⟨w.heap.size + 1, 0, none⟩ (.slice (some ⟨g, 0, none⟩) (q + 1) cap)) := by
              have h1 := HW.out.2.2
              have h2 := HF.out.1
              have h3 := HO.out.1
              refine ⟨h3.os.trans (h2.os.trans h1.os), h3.tape.trans (h2.tape.trans h1.tape), h3.output.trans (h2.output.trans h1.output), by rw [setCell_size, h3.size]; have := h2.size; have := h1.size; omega, fun b hb hbg => ?_⟩
              rw [setCell_far _ _ _ _ (by show b ≠ w.heap.size + 1; omega), h3.block b (by omega), h2.block b (by omega) hbg, h1.block b hb]
            have hCf : Cop K (wr.setCell ⟨w.heap.size + 1, 0, none⟩ (.slice (some ⟨g, 0, none⟩) (q + 1) cap)) g cap cur1 (zs1.take (q + 1)) := by
              refine (HF.out.2.1.take (q + 1)).keep fun b hb _ => ⟨?_, hb⟩
              have := hKw b hb
              rw [setCell_far _ _ _ _ (by show b ≠ w.heap.size + 1; omega), HO.out.1.block b (by omega)]
            have hmf : (zs1.take (q + 1)).map (·.x) = save (trim (M.set k (some { n with l := tidy n.l }))) := by
              rw [← HF.out.2.2.2.2.2.2.2.2.1, HF.out.2.2.2.1, List.map_take, HF.out.2.2.1]
              unfold save
              rw [List.map_take]
            refine bodyPost_ret (v := .agg #[.slice (some ⟨g, 0, none⟩) (q + 1) cap]) (by simp [results, Try.results61, go_sem, hcr]) rfl ?_
            exact ⟨cur1, zs1.take (q + 1), by rw [hlt], hgw, hCf, hmf⟩

theorem tidyR_ok (K : Nat → Prop) (g cap : Nat) (M : Tr) (zs : List SZ) (cur : Array Value) (w : World) (k : Nat) (n : Node) (hC : Cop K w g cap cur zs) (hs : zs.map (·.x) = save M) (hm : M.length ≤ 64) (hk : M[k]? = some (some n)) (hlen : n.l.length ≤ 200) :
    Calls Try.prog 61 #[.agg #[.slice (some ⟨g, 0, none⟩) M.length cap], .int .i64 k] w fun e w' => ∃ cur' zs', e = .returned (.agg #[.slice (some ⟨g, 0, none⟩) zs'.length cap]) ∧ Grow1 g w w' ∧ Cop K w' g cap cur' zs' ∧ zs'.map (·.x) = save (trim (M.set k (some { n with l := tidy n.l }))) := by
  have hC' : Cop (fun b => K b ∧ b < w.heap.size) w g cap cur zs :=
    ⟨⟨hC.low, lt_of_heap hC.row⟩, hC.row, hC.size, hC.len, hC.most, hC.cells, hC.rows, fun i z b hz hb => ⟨hC.own i z b hz hb, ((hC.rows i z hz).lt b hb).2⟩, hC.apart⟩
  refine (tidyR_walk _ g cap M zs cur w k n hC' hs hm hk hlen (fun b hb => hb.2)).mono ?_
  rintro e w' ⟨cur', zs', he, hg, hC2, hs2⟩
  exact ⟨cur', zs', he, hg, hC2.keep fun b hb _ => ⟨rfl, hb.1⟩, hs2⟩
end Ne
end Go.Proofs.Ytllmddhahpegmaa
