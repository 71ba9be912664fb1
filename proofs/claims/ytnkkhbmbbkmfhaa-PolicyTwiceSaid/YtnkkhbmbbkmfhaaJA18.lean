/- The program: slices.Delete at the queue. -/
import Derived.Test.YtnkkhbmbbkmfhaaJA17
namespace Go.Proofs.Ytnkkhbmbbkmfhaa
open Go.Shelf Go.RowKit Go.Sort Go.Lib
namespace Py

set_option maxRecDepth 100000 in
theorem run_shift {w : World} {B c g o : Nat} {H : List Wt} (h : QAt w B (some ⟨g, o, none⟩) c H) {k : Nat} (hk : k < H.length) (ty : TypeId) (q oo cc : Nat) (hoo : k + 1 < H.length → oo = o + (k + 1) * 2) :
    (Builtin.append_ #[100, 100] ty #[.slice (some ⟨g, o, none⟩) k c, .slice (some ⟨g, oo, none⟩) (H.length - (k + 1)) cc]).run Try.prog (w.drewN q) = .ok (.slice (some ⟨g, o, none⟩) (H.length - 1) c) ((w.drewN q).setCells g (o + k * 2) (ce ewt (H.drop (k + 1)))) := by
  obtain ⟨i, z, hi, hz, hsz, hby, hzs⟩ := info_open wait_info
  rcases h with ⟨h, _⟩ | ⟨g', o', e, hB, hg, hs, hl, hc, hat⟩
  · cases h
  · injection e with e; injection e with e1 e2 _
    subst e1; subst e2
    have hcl : ∀ L : List Wt, (ce ewt L).length = L.length * 2 := ce_len EWT
    have hdl : (H.drop (k + 1)).length = H.length - (k + 1) := List.length_drop
    have hsrc : Src Try.prog i.size 100 (.slice (some ⟨g, oo, none⟩) (H.length - (k + 1)) cc) (H.length - (k + 1)) (ce ewt (H.drop (k + 1))) (w.drewN q) := Src.ofSlice (w.drewN q) Try.underlying100 ⟨g, oo, none⟩ (H.length - (k + 1)) cc (ce ewt (H.drop (k + 1))) (by rw [hsz, hcl, hdl]) (fun j u hu => by
      have hj := ce_lt hu
      rw [hdl] at hj
      rw [hoo (by omega), Addr.add_lit, Nat.add_assoc]
      refine hat _ _ ?_
      have htk : (H.take (k + 1)).length = k + 1 := by rw [List.length_take]; omega
      rw [← List.take_append_drop (k + 1) H, ce_add, List.getElem?_append_right (by rw [hcl, htk]; omega), hcl, htk, Nat.add_sub_cancel_left]
      exact hu) (ce_one EWT _)
    have := run_append_room_src (P := Try.prog) (w.drewN q) 100 100 ty 103 i Try.underlying100 hi g o k c _ _ _ hsrc (by omega) (fun j hj => by
      rw [hcl, hdl] at hj
      rw [hsz, Nat.add_assoc]; exact (hs _ (by omega)).1) (fun j hj => by
      rw [hcl, hdl] at hj
      rw [hsz, Nat.add_assoc]; exact (hs _ (by omega)).2)
    rw [hsz, show k + (H.length - (k + 1)) = H.length - 1 by omega] at this
    exact this
theorem wpList_clear2 {w : World} {ops : Array Oper} {rest : List Oper} {o : Oper} {a : Act} {Q : Exit → Act → World → Prop} (hgd : o.guard = none) (s : Operand) (ho : o.op = .call { callee := .builtin .clear, args := #[s], argTypes := #[100] })
    (v : Value) (hs : a.eval s = v) (w' : World) (hrun : (Builtin.clear_ #[100] o.type #[v]).run Try.prog w = .ok (.tuple #[]) w') (h : wpList Try.prog ops Q rest (a.put o.dst (.tuple #[])) w') : wpList Try.prog ops Q (o :: rest) a w := by
  refine wpList_plain hgd fun K hK => ?_
  unfold Oper.wp
  simp only [execOp, ho, resolve, invoke, builtin, Sem.run_bind, Sem.run_pure, Result.andThen_ok, List.map_toArray, List.map_cons, List.map_nil, hs, hrun]
  exact hK _ _ h
set_option maxRecDepth 100000 in
set_option maxHeartbeats 4000000 in
/-- One page is taken out. -/
theorem delete_ok (w : World) (B c : Nat) (A : Option Addr) (H : List Wt) (k : Nat) (h : QAt w B A c H) (hk : k < H.length) (hl : H.length ≤ 100000) :
    Calls Try.prog 62 #[.slice A H.length c, .int .i64 k, .int .i64 ((k + 1 : Nat) : Int)] w fun e w' => e = .returned (.slice A (H.length - 1) c) ∧ QAt w' B A c (H.eraseIdx k) ∧ Below B w w' ∧ (∀ j, A.map (·.block) ≠ some j → w'.heap[j]? = w.heap[j]?) := by
  obtain ⟨g, o, rfl, hg, _⟩ := h.eat.wt2 hk
  have hc := h.eat.1
  have hcm := h.eat.2.1
  unfold maxLen at hcm
  have hkk : ((k : Int) == ((k + 1 : Nat) : Int)) = false := by simp; omega
  have HX := Lib.hid h
  clear h
  go_enter Try.func62, Try.ntmps62
  go_upto_region 5 with (fail)
  have a1 : k ≤ c := by omega
  have a2 : (k : Int) ≤ (c : Int) := by omega
  have a3 : ¬ ((k : Int) < 0) := by omega
  have a4 : ¬ ((c : Int) < (k : Int)) := by omega
  have a5 : k ≤ H.length := by omega
  have a6 : k + 1 ≤ H.length := hk
  have a7 : ((k : Int) + 1) ≤ (H.length : Int) := by omega
  have a8 : ((k : Int) + 1).toNat = k + 1 := by omega
  have a9 : ¬ ((k : Int) + 1 < 0) := by omega
  have a10 : (0 : Int) ≤ (k : Int) + 1 := by omega
  have a11 : (H.length : Int) ≤ (c : Int) := by omega
  obtain ⟨oo, hoo, hoo2⟩ : ∃ oo, (if c = k + 1 then (some ⟨g, o, none⟩ : Option Addr) else some ⟨g, o + (k + 1) * 2, none⟩) = some ⟨g, oo, none⟩ ∧ (k + 1 < H.length → oo = o + (k + 1) * 2) := by
    by_cases e : c = k + 1
    · exact ⟨o, by rw [if_pos e], fun h => by omega⟩
    · exact ⟨_, by rw [if_neg e], fun _ => rfl⟩
  have hrun := fun ty => run_shift HX.out hk ty 1 oo (c - (k + 1)) hoo2
  rw [show w.drewN 1 = w.drew from rfl, ← hoo] at hrun
  have HRUN := Lib.hid hrun
  clear hrun hoo hoo2
  go_region_law (refine step_of rfl (wp_append_run (.tmp 22) (.tmp 25) rfl _ _ _ (by exact rfl) (by exact rfl) _ (HRUN.out _) ?_))
  all_goals
    obtain ⟨V1, hV1⟩ : ∃ V1, V1 = w.drew.setCells g (o + k * 2) (ce ewt (H.drop (k + 1))) := ⟨_, rfl⟩
    rw [← hV1]
    have HV1 := Lib.hid hV1
    clear hV1
    have b1 : ¬ c = H.length - 1 := by omega
    have b2 : H.length - (H.length - 1) = 1 := by omega
    have hh : (∀ j, j < 2 → (V1.cell? ⟨g, o + (H.length - 1) * 2 + j, none⟩).isSome = true) ∧ (∀ j, j < 2 → V1.frozen? ⟨g, o + (H.length - 1) * 2 + j, none⟩ = false) := by
      rw [HV1.out]
      rcases HX.out with ⟨h, _⟩ | ⟨g', o', e, hB, hg, hs, hl, hc, hat⟩
      · cases h
      · injection e with e; injection e with e1 e2 _
        subst e1; subst e2
        refine ⟨fun j hj => World.isSome_setCells g _ _ _ _ ?_, fun j hj => ?_⟩
        · have := (hs ((H.length - 1) * 2 + j) (by omega)).1
          rw [← Nat.add_assoc] at this; exact this
        · have := (hs ((H.length - 1) * 2 + j) (by omega)).2
          rw [← Nat.add_assoc] at this
          rw [World.frozen?_setCells]; exact this
    have HH := Lib.hid hh
    clear hh
    have hrunc := fun ty cc => run_clear2 V1 ty g (o + (H.length - 1) * 2) cc HH.out.1 HH.out.2
    have HRC := Lib.hid hrunc
    clear hrunc
    have b3 : H.length - 1 ≤ c := by omega
    have b4 : ((H.length - 1 : Nat) : Int) ≤ (H.length : Int) := by omega
    have HB := Lib.hid (And.intro b1 b2)
    go_wp2_with (fail)
    all_goals
      rw [HRC.out]
      go_wp2
      go_ret
      try subst ‹c = k + 1›
      obtain ⟨hB, _⟩ := HX.out.blk g rfl
      refine ⟨rfl, ?_, ?_, fun j hj => ?_⟩
      · rw [HV1.out]; exact QAt.erase (w := w.drew) (HX.out.drew 1) hk
      · rw [HV1.out]
        exact (below_drew (Below.refl B w)).trans ((sc_below hB _ _ _).trans (sc_below hB _ _ _))
      · have hne : j ≠ g := fun e => hj (by rw [e]; rfl)
        rw [HV1.out, sc_far g j hne, sc_far g j hne]; rfl
end Py
end Go.Proofs.Ytnkkhbmbbkmfhaa
