/- The program: aged, and what it makes. -/
import Derived.Test.YtnkkhbmbbkmfhaaJA6
import Derived.Laws.Tables
namespace Go.Proofs.Ytnkkhbmbbkmfhaa
open Go.RowKit Go.Sort Go.Lib
namespace Py

abbrev agF (b : Nat) : Value := .func (.func 55) #[] #[.pointer (some ⟨b, 0, none⟩)]
set_option maxHeartbeats 2000000 in
theorem agedF_ok (age left : Int) (b : Nat) (W : World) (hb : W.cell? ⟨b, 0, none⟩ = some (.int .i64 age)) :
    Calls Try.prog 55 #[.int .i64 left, .pointer (some ⟨b, 0, none⟩)] W fun e w' => e = .returned (.int .i64 (min age left)) ∧ w' = W := by
  go_enter Try.func55, Try.ntmps55
  go_wp2
  go_ret
  exact ⟨rfl, rfl⟩
theorem below_setRow {w : World} {r n : Nat} (h : n ≤ r) (cs : Array Value) : Below n w (w.setRow r cs) :=
  ⟨rfl, rfl, rfl, by simp, fun k hk => setRow_other w r k cs (by omega)⟩
theorem rule_info : (Try.prog.info? 73).map (·.size) = some 1 := by kernel_rfl
set_option maxHeartbeats 2000000 in
theorem aged_ok (age : Int) (W : World) :
    Calls Try.prog 37 #[.int .i64 age] W fun e w' => ∃ b, e = .returned (.agg #[agF b]) ∧ w'.cell? ⟨b, 0, none⟩ = some (.int .i64 age) ∧ W.heap.size ≤ b ∧ Below W.heap.size W w' := by
  obtain ⟨k1, k2⟩ := two_boxes W #[.int .i64 age] #[Value.nilFunc] 2 73
  have hbl : Below W.heap.size W ((W.alloc (.cells #[.int .i64 age] 2)).alloc (.cells #[Value.nilFunc] 73)) := (below_box W _).alloc (by simp) _
  have HX := Lib.hid (And.intro k1 hbl)
  clear k1 hbl
  have hi := rule_info
  go_enter Try.func37, Try.ntmps37
  go_upto_region 1 with (fail)
  generalize (W.alloc (.cells #[.int .i64 age] 2)).alloc (.cells #[Value.nilFunc] 73) = V at *
  have hone : (#[agF W.heap.size] : Array Value).all (·.oneCell') = true := by kernel_rfl
  have H0 : ∀ (ops : Array Oper) (o : Oper) (rest : List Oper) (a : Act) (Q : Exit → Act → World → Prop), o.guard = none → o.op = .store 73 (.tmp 2) (.tmp 4) → a.eval (.tmp 2) = .pointer (some ⟨W.heap.size + 1, 0, none⟩) → a.eval (.tmp 4) = .agg #[agF W.heap.size] → wpList Try.prog ops Q rest (a.put o.dst undef) (V.setRow (W.heap.size + 1) #[agF W.heap.size]) → wpList Try.prog ops Q (o :: rest) a V := fun ops o rest a Q h1 h2 h3 h4 h5 => wpList_store_row h1 _ _ _ h2 _ _ h3 h4 _ _ k2 hi rfl hone h5
  have HK := Lib.hid (And.intro H0 (And.intro k2 hi))
  clear k2 H0 hi
  go_wp2_with (refine HK.out.1 _ _ _ _ _ rfl rfl rfl rfl ?_)
  have hrow : (V.setRow (W.heap.size + 1) #[agF W.heap.size]).heap[W.heap.size + 1]? = some (.cells #[agF W.heap.size] 73 (0, 0)) := setRow_heap V _ _ _ _ _ HK.out.2.1
  try simp only [Exit.inBlock, Exit.then]
  refine bodyPost_ret (v := .agg #[agF W.heap.size]) (results_cell_row rfl _ _ (W.heap.size + 1) 73 #[agF W.heap.size] (0, 0) _ rfl hrow Try.underlying73 rfl HK.out.2.2) rfl ⟨W.heap.size, rfl, ?_, Nat.le_refl _, ?_⟩
  · have h9 : (V.setRow (W.heap.size + 1) #[agF W.heap.size]).heap[W.heap.size]? = V.heap[W.heap.size]? := setRow_other _ _ _ _ (by omega)
    rw [cell_of_row _ _ _ _ _ _ (h9.trans HX.out.1)]; rfl
  · exact HX.out.2.trans (below_setRow (by omega) _)
end Py
end Go.Proofs.Ytnkkhbmbbkmfhaa
