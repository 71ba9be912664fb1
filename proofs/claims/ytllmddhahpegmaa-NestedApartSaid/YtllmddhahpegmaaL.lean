/- The walk of Rewind. -/
import Derived.Test.YtllmddhahpegmaaK
namespace Go.Proofs.Ytllmddhahpegmaa
open Go.RowKit
namespace Ne

theorem rewind_err (w : World) (t : Nat) (i m : Int) 
   (hc : Calls Try.prog 37 #[.pointer (some ⟨t, 0, none⟩), .int .i64 i] w fun e w' => e = .returned (.tuple #[.pointer none, .int .i64 4]) ∧ w = w') :
    Calls Try.prog 20 #[.pointer (some ⟨t, 0, none⟩), .int .i64 i, .int .i64 m] w fun e w' => e = .returned (.int .i64 4) ∧ w' = w := by
  have H := Lib.hid hc; clear hc
  go_enter Try.func20, Try.ntmps20
  go_wp2_with (first | (go_at_call 37; refine H.out.mono ?_; rintro e w' ⟨rfl, rfl⟩))
  go_ret
  exact ⟨rfl, rfl⟩

theorem rewind_out (w : World) (t : Nat) (i m : Int) (b : Nat) (A : Option Addr) (L c : Nat) (hL : L ≤ 200) (h3 : w.cell? ⟨b, 3, none⟩ = some (.slice A L c)) (hm : m < 0 ∨ L < m)
   (hc : Calls Try.prog 37 #[.pointer (some ⟨t, 0, none⟩), .int .i64 i] w fun e w' => e = .returned (.tuple #[.pointer (some ⟨b, 0, none⟩), .int .i64 0]) ∧ w = w') :
    Calls Try.prog 20 #[.pointer (some ⟨t, 0, none⟩), .int .i64 i, .int .i64 m] w fun e w' => e = .returned (.int .i64 7) ∧ w' = w := by
  have H := Lib.hid hc; clear hc
  rcases hm with hm | hm
  all_goals
    go_enter Try.func20, Try.ntmps20
    go_wp2_with (first | (go_at_call 37; refine H.out.mono ?_; rintro e w' ⟨rfl, rfl⟩))
    go_ret
    exact ⟨rfl, rfl⟩

set_option maxRecDepth 100000 in
set_option maxHeartbeats 1000000 in
theorem rewind_ok (w : World) (own : Nat → Option Nat) (t g cap F : Nat) (cs : Array Value) (M : Tr) (i : Nat) (m : Nat) (n : Node) (b : Nat) (A : Option Addr) (c : Nat) (h : TreeAt w own t g cap cs M) (hml : M.length ≤ 64)
    (hi : M[i]? = some (some n)) (hcs : cs[i]? = some (.pointer (some ⟨b, 0, none⟩))) (hb : w.heap[b]? = some (NodeCells n (.slice A n.l.length c))) (hl : ItemsAt w own i (.slice A n.l.length c) n.l) (hlen : n.l.length ≤ 200) (hm : m ≤ n.l.length)
    (hS : ShutOk F M (n.l.drop m)) (hroot : ∃ r, (shut F M (n.l.drop m))[0]? = some (some r)) (hopen : (shut F M (n.l.drop m))[i]? = some (some n)) (hopen2 : (trim (shut F M (n.l.drop m)))[i]? = some (some n))
    (hc : Calls Try.prog 37 #[.pointer (some ⟨t, 0, none⟩), .int .i64 i] w fun e w' => e = .returned (.tuple #[.pointer (some ⟨b, 0, none⟩), .int .i64 0]) ∧ w = w') :
    Calls Try.prog 20 #[.pointer (some ⟨t, 0, none⟩), .int .i64 i, .int .i64 m] w (Does w own t ((trim (shut F M (n.l.drop m))).set i (some { n with l := tidy (n.l.take m) })) (.int .i64 0)) := by
  have H := Lib.hid hc
  have hR := RowAt.of_owns hl.1
  have hcap := hR.1
  have hcm := hR.2.1
  unfold maxLen at hcm
  have hdl : (n.l.drop m).length = n.l.length - m := by simp
  have HSh := shut_ok w own t g cap F cs M (n.l.drop m) _ _ h hml hS (by omega) (hR.drop hm) hroot
  rw [hdl] at HSh
  generalize hA' : (if c = m then A else A.map (·.add (m * 3))) = A' at HSh
  have HShh := Lib.hid HSh
  obtain ⟨c0, c1, c2, c3, c4, cf⟩ := nodeOpen hb
  have hiM : i < M.length := (List.getElem?_eq_some_iff.1 hi).1
  have hob := (nodeOwn h hi hcs).1
  have HH := Lib.hid (And.intro h (And.intro hcs (And.intro hopen (And.intro hopen2 hob))))
  clear hc hR hdl h hi hcs hb hl hS hroot hopen hopen2 HSh hob
  generalize hL : n.l.length = L at *
  have HL := Lib.hid hL
  clear hL
  go_enter Try.func20, Try.ntmps20
  go_wp2_with (first | (go_at_call 37; refine H.out.mono ?_; rintro e w' ⟨rfl, rfl⟩) | (go_at_call 40; fail))
  clear hA'
  refine HShh.out.mono ?_
  rintro e w4 ⟨rfl, ⟨cs4, hT4, hcc4⟩, hos4, htp4, hou4, hsz4, hold4⟩
  have hc4 : cs4[i]? = some (.pointer (some ⟨b, 0, none⟩)) := by rw [hcc4 i (by rw [HH.out.2.2.1]; simp)]; exact HH.out.2.1
  obtain ⟨hob4, iv4, hb4, hl4⟩ := nodeOwn hT4 HH.out.2.2.2.1 hc4
  obtain ⟨A4, c5, rfl⟩ := itemsLen hl4
  obtain ⟨d0, d1, d2, d3, d4, df⟩ := nodeOpen hb4
  have df3 := df 3
  have hR4 := RowAt.of_owns hl4.1
  have hcap4 := hR4.1
  have hcm4 := hR4.2.1
  rw [HL.out] at d3 hcap4
  unfold maxLen at hcm4
  have hne4 : ∀ k, (Value.slice A4 k c5).ownBlock ≠ some b := fun k e => by
    have : (Value.slice A4 n.l.length c5).ownBlock = some b := by cases A4 <;> simp [Value.ownBlock] at e ⊢; exact e
    have := hl4.2 b this
    rw [hob4] at this; simp at this
  have htk : (n.l.take m).length = m := by rw [List.length_take, HL.out]; omega
  have hrowm : w4.ownsRow 0 54 3 (.slice A4 m c5) m (icells (n.l.take m)) := by have := row_prefix hl4.1 (m := m) (by rw [HL.out]; exact hm); rw [htk] at this; exact this
  have HTd := fun (w5 : World) (h1 : Only b w4 w5) (h2 : w5.heap[b]? = some (NodeCells n (.slice A4 m c5))) =>
    tidy_ok w5 b { n with l := n.l.take m } A4 c5 (by rw [htk]; exact h2) (by rw [htk]; exact row_same hrowm fun k hk => h1.block k (fun e => hne4 m (by rw [hk, e]))) (hne4 _) (by rw [htk]; omega)
  have HTd := Lib.hid HTd
  have H4 := Lib.hid (And.intro hT4 (And.intro hc4 (And.intro hl4 (And.intro hb4 (And.intro hos4 (And.intro htp4 (And.intro hou4 (And.intro hsz4 hold4))))))))
  clear hT4 hcc4 hl4 hb4 hos4 htp4 hou4 hold4 hR4 df d0 d1 d2 d4 HShh
  go_wp2_with (go_at_call 41; fail)
  refine (HTd.out _ ((Only.refl b w4).setCell _ _) (by rw [setCell_at _ _ _ _ _ _ H4.out.2.2.2.1]; rfl)).mono ?_
  rintro e w6 ⟨rfl, hb6, ho6, k, hk, htd⟩
  go_wp2
  go_ret
  obtain ⟨hT4, hc4, hl4, hb4, hos4, htp4, hou4, hold4⟩ := H4.out
  have ho46 : Only b w4 w6 := ⟨ho6.os, ho6.tape, ho6.output, ho6.size.trans (setCell_size _ _ _), fun k hk => (ho6.block k hk).trans (setCell_far _ _ _ _ hk)⟩
  have hkm : k ≤ m := by rw [htk] at hk; exact hk
  have htd' : tidy (n.l.take m) = n.l.take k := by rw [htd, List.take_take, Nat.min_eq_left hkm]
  have htl : (tidy (n.l.take m)).length = k := by rw [htd', List.length_take, HL.out]; omega
  have hrowk : w4.ownsRow 0 54 3 (.slice A4 k c5) k (icells (n.l.take k)) := by
    have := row_prefix hl4.1 (m := k) (by rw [HL.out]; omega)
    rw [← htd', htl] at this
    rw [← htd']; exact this
  refine ⟨rfl, own, ⟨g, cap, cs4, ?_⟩, ?_⟩
  · refine hT4.setNode (n' := { n with l := tidy (n.l.take m) }) (iv := .slice A4 k c5) HH.out.2.2.2.1 hc4 (fun k' h1 h2 h3 h4 => ho46.block k' (fun e => h2 (by rw [e]; exact hob4))) (fun _ _ => rfl) ?_ ⟨?_, ?_⟩
    · rw [hb6, htl]; rfl
    · show w6.ownsRow 0 54 3 (.slice A4 k c5) (tidy (n.l.take m)).length (icells (tidy (n.l.take m)))
      rw [htl, htd']
      exact row_same hrowk fun g' hg' => ho46.block g' (fun e => hne4 k (by rw [hg', e]))
    · intro g' hg'
      refine hl4.2 g' ?_
      cases A4 <;> simp [Value.ownBlock] at hg' ⊢
      exact hg'
  · have hg1 : own g = some 1 := hT4.ownG
    have ht1 : own t = some 0 := hT4.ownT
    refine ⟨ho46.os.trans hos4, ho46.tape.trans htp4, ho46.output.trans hou4, by rw [ho46.size]; exact hsz4, fun k' h1 h2 => ?_, fun _ _ => rfl, fun _ h => .inl h⟩
    rw [ho46.block k' (fun e => by rw [e, hob4] at h2; cases h2)]
    exact hold4.2 k' h1 (fun e => by rw [e, hg1] at h2; cases h2) (fun e => by rw [e, ht1] at h2; cases h2)
end Ne
end Go.Proofs.Ytllmddhahpegmaa
