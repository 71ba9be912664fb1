/- The argument of PolicyBest: a policy and a set. -/
import Derived.Test.YtnkkhbmbbkmfhaaJL3
import Derived.Deep.Grids
namespace Go.Proofs.Ytnkkhbmbbkmfhaa
namespace Py
open Go.ChangeShapes Go.WideShapes Go.ChangeAt Go.RowKit Go.Deep Go.Joins

abbrev ebl (b : Bool) : List Value := [.bool b]
theorem EB : Enc ebl 1 := ⟨by omega, fun _ => rfl, fun x u h => by
  simp only [List.mem_cons, List.not_mem_nil, or_false] at h
  rcases h with rfl; rfl⟩
theorem EAt.b1 {w : World} {A : Option Addr} {c : Nat} {F : List Bool} (h : EAt ebl 1 w A c F) {j : Nat} {b : Bool} (hj : F[j]? = some b) : ∃ g o, A = some ⟨g, o, none⟩ ∧ g < w.heap.size ∧ w.cell? ⟨g, o + j, none⟩ = some (.bool b) := by
  obtain ⟨g, o, hA, hg, d⟩ := h.2.2 j _ hj
  have := d 0 _ (by omega) rfl
  rw [Nat.mul_one, Nat.add_zero] at this
  exact ⟨g, o, hA, hg, this⟩
section
variable {H : Type} {enc : TypeId × Value → H} {W : World} {v : Value} {d : DataW H} {p : List MemPlace}
set_option maxRecDepth 100000 in
theorem open_other {r : Reach} {b0 : Nat} (hv : Value.okWide Try.prog W r b0 59 v) (h : DataW.Trod enc Try.prog W 0 (fun _ => true) true 59 v d p) :
    ∃ (k a m : Int) (A : Option Addr) (c : Nat) (F : List Bool), v = .agg #[.int .i64 k, .int .i64 a, .int .i64 m, .slice A F.length c] ∧ EAt ebl 1 W A c F := by
  obtain ⟨cs, rfl, hsz⟩ := okWide_struct Try.underlying59 hv
  have h4 : cs.size = 4 := hsz.trans (by kernel_rfl)
  obtain ⟨l⟩ := cs
  match l, h4 with
  | [c0, c1, c2, c3], _ =>
    obtain ⟨fuel, hf⟩ := h
    obtain ⟨ys, n', hn', hy, hlen, hyl, hg⟩ := DataW.trod_struct Try.underlying59 hf
    have e3 : Try.prog.cellsOf 26 = 3 := by kernel_rfl
    have e1 : Try.prog.cellsOf 57 = 1 := by kernel_rfl
    have t0 : DataW.trod enc Try.prog W 0 (fun _ => true) true n' 26 (([c0, c1, c2, c3].drop 0).take (Try.prog.cellsOf 26)) = ys[0]? := hg 0 _ rfl
    have t1 : DataW.trod enc Try.prog W 0 (fun _ => true) true n' 57 (([c0, c1, c2, c3].drop 3).take (Try.prog.cellsOf 57)) = ys[1]? := hg 1 _ rfl
    rw [e3] at t0
    rw [e1] at t1
    match ys, hyl with
    | [y0, y1], _ =>
      have t0 : DataW.trod enc Try.prog W 0 (fun _ => true) true n' 26 [c0, c1, c2] = some y0 := t0
      have t1 : DataW.trod enc Try.prog W 0 (fun _ => true) true n' 57 [c3] = some y1 := t1
      obtain ⟨zs, n2, _, _, _, hzl, hz⟩ := DataW.trod_struct Try.underlying26 t0
      match zs, hzl with
      | [z0, z1, z2], _ =>
        have i1 : Try.prog.cellsOf 3 = 1 := by kernel_rfl
        have i2 : Try.prog.cellsOf 2 = 1 := by kernel_rfl
        have s0 : DataW.trod enc Try.prog W 0 (fun _ => true) true n2 3 (([c0, c1, c2].drop 0).take (Try.prog.cellsOf 3)) = some z0 := hz 0 _ rfl
        have s1 : DataW.trod enc Try.prog W 0 (fun _ => true) true n2 2 (([c0, c1, c2].drop 1).take (Try.prog.cellsOf 2)) = some z1 := hz 1 _ rfl
        have s2 : DataW.trod enc Try.prog W 0 (fun _ => true) true n2 3 (([c0, c1, c2].drop 2).take (Try.prog.cellsOf 3)) = some z2 := hz 2 _ rfl
        rw [i1] at s0 s2
        rw [i2] at s1
        have s0 : DataW.trod enc Try.prog W 0 (fun _ => true) true n2 3 [c0] = some z0 := s0
        have s1 : DataW.trod enc Try.prog W 0 (fun _ => true) true n2 2 [c1] = some z1 := s1
        have s2 : DataW.trod enc Try.prog W 0 (fun _ => true) true n2 3 [c2] = some z2 := s2
        obtain ⟨n0, q0, _, _⟩ := DataW.trod_int Try.underlying3 s0
        obtain ⟨n1, q1, _, _⟩ := DataW.trod_int Try.underlying2 s1
        obtain ⟨n2, q2, _, _⟩ := DataW.trod_int Try.underlying3 s2
        have q0 : c0 = .int .i64 n0 := by simpa using q0
        have q1 : c1 = .int .i64 n1 := by simpa using q1
        have q2 : c2 = .int .i64 n2 := by simpa using q2
        subst q0; subst q1; subst q2
        rcases open_bools Try.underlying57 Try.underlying4 (by kernel_rfl) t1 with ⟨e, _⟩ | ⟨a, len, cap, B, e, _, hl, hm, _, hc⟩
        · have e : c3 = .slice none 0 0 := by simpa using e
          subst e
          exact ⟨n0, n1, n2, none, 0, [], rfl, eat_nil W⟩
        · have e : c3 = .slice (some a) len cap := by simpa using e
          subst e
          refine ⟨n0, n1, n2, some a, cap, (List.range len).map B, by rw [List.length_map, List.length_range], by rw [List.length_map, List.length_range]; exact hl, hm, fun j x hx => ?_⟩
          have hj : j < len := by have := (List.getElem?_eq_some_iff.1 hx).1; simpa using this
          have hb : B j = x := by rw [List.getElem?_map, List.getElem?_range hj] at hx; simpa using hx
          have h0 := World.cell?_spot (hc 0 (by omega))
          obtain ⟨g, o, spot⟩ := a
          rw [Addr.add, if_pos rfl] at h0
          have h0 : spot = none := h0
          subst h0
          have h1 := hc j (by omega)
          rw [add_plain, hb] at h1
          refine ⟨g, o, rfl, World.block_lt_of_cell? _ (a := ⟨g, _, none⟩) h1, fun i v hi hv => ?_⟩
          have : i = 0 := by omega
          subst this
          simp at hv
          rw [← hv, Nat.mul_one, Nat.add_zero]
          exact h1
end
end Py
end Go.Proofs.Ytnkkhbmbbkmfhaa
