/- The law's example: what the calls on it answer. The law's shown: some calls return what the document says of them. -/
import Derived.Test.YtionocafkaemiaaDoorJL1
import Derived.Test.YtionocafkaemiaaDoorJW7
import Derived.Test.YtionocafkaemiaaDoorJA16
import Derived.Test.YtionocafkaemiaaDoorJA23
import Derived.Test.YtionocafkaemiaaDoorJS5
namespace Go.Proofs.YtionocafkaemiaaDoor
open Go.RowKit Go.Sort Go.Lib
namespace Sx
theorem ex_area : areaS exL 10 40 = (⟨0, 150⟩, 0) := by rfl
theorem ex_peak : extS gt exL 15 25 = (⟨20, 8⟩, 0) := by rfl
theorem ex_quant : quantS exL 10 40 1 2 = (5, 0) := by rfl
theorem ex_env : envS exL 40 2 = ([⟨10, 8⟩, ⟨30, 2⟩], 0) := by rfl
abbrev dirty : ByteArray := ⟨#[100, 105, 114, 116, 121]⟩
theorem ex_name : nameS dirty = true := by decide
theorem itoa_one {u : Nat} (h : u < 10) : itoa (u : Int) = [UInt8.ofNat (48 + u)] := by rw [itoa_nat, decDigits, dif_pos h]
theorem ex_nums : nums exL 10 40 = [((2 : Nat) : Int), ((8 : Nat) : Int), ((2 : Nat) : Int), ((5 : Nat) : Int)] := by rfl
theorem ex_ask : askS exL 10 40 = 0 := by rfl
theorem ex_rep (A : Option Addr) (c : Nat) : repS [dirty] [⟨A, c, exL⟩] 10 40 = ([100, 105, 114, 116, 121, 32, 50, 32, 56, 32, 50, 32, 53, 10], 0) := by
  have h1 : chkR [dirty] [⟨A, c, exL⟩] 10 40 = 0 := by
    unfold chkR
    rw [if_neg (by simp), if_neg (by simp), if_neg (by simp [ex_name])]
    exact firstE_none fun j hj => by
      have : j = 0 := by simpa using hj
      subst this
      exact ex_ask
  unfold repS
  rw [h1, if_neg (by simp)]
  have h2 : linesK [dirty] [⟨A, c, exL⟩] 10 40 1 = [100, 105, 114, 116, 121, 32, 50, 32, 56, 32, 50, 32, 53, 10] := by
    show [] ++ lineS dirty exL 10 40 = _
    unfold lineS
    rw [ex_nums]
    unfold numsB
    simp only [List.flatMap_cons, List.flatMap_nil]
    rw [itoa_one (by omega), itoa_one (by omega), itoa_one (by omega)]
    rfl
  show (linesK [dirty] [⟨A, c, exL⟩] 10 40 1, (0 : Int)) = _
  rw [h2]
end Sx
end Go.Proofs.YtionocafkaemiaaDoor
namespace Go.Proofs.YtionocafkaemiaaDoor
open Go.RowKit Go.Sort Go.Lib
namespace Sx
attribute [local irreducible] wpQuiet
theorem exArea (A : Option Addr) (V : World) (h : SAt V A 3 exL) : Calls Tryd.prog 12 #[sv A 3 3, .int .i64 10, .int .i64 40] V fun e w' => e = .returned (.tuple #[.agg #[.int .i64 0, .int .i64 150], .int .i64 0]) ∧ Below V.heap.size V w' := by
  have := Area_ok A 3 exL 10 40 V h
  rw [ex_area] at this; exact this
theorem exPeak (A : Option Addr) (V : World) (h : SAt V A 3 exL) : Calls Tryd.prog 21 #[sv A 3 3, .int .i64 15, .int .i64 25] V fun e w' => e = .returned (.tuple #[.agg #[.int .i64 20, .int .i64 8], .int .i64 0]) ∧ Below V.heap.size V w' := by
  have := peak_ok A 3 exL 15 25 V h
  rw [ex_peak] at this; exact this
theorem exQuant (A : Option Addr) (V : World) (h : SAt V A 3 exL) : Calls Tryd.prog 14 #[sv A 3 3, .int .i64 10, .int .i64 40, .int .i64 1, .int .i64 2] V fun e w' => e = .returned (.tuple #[.int .i64 5, .int .i64 0]) ∧ Below V.heap.size V w' := by
  have := quant_ok2 A 3 exL 10 40 1 2 V h
  rw [ex_quant] at this; exact this
theorem exEnv (A : Option Addr) (V : World) (h : SAt V A 3 exL) : Calls Tryd.prog 17 #[sv A 3 3, .int .i64 40, .int .i64 2] V fun e w' => ∃ A' c', e = .returned (.tuple #[sv A' 2 c', .int .i64 0]) ∧ SAt w' A' c' [⟨10, 8⟩, ⟨30, 2⟩] ∧ Below V.heap.size V w' := by
  have := env_ok A 3 exL 40 2 V h
  rw [ex_env] at this; exact this
theorem exRep (AN AL A : Option Addr) (V : World) (hN : EAt enS 1 V AN 1 [dirty]) (hL : EAt enL 1 V AL 1 [⟨A, 3, exL⟩]) (h : SAt V A 3 exL) (hT : Lib.TabIs Tryd.prog V "internal/strconv.uint64pow10" .u64 Lib.pow10Tab) :
    Calls Tryd.prog 39 #[.slice AN 1 1, .slice AL 1 1, .int .i64 10, .int .i64 40] V fun e w' => e = .returned (.tuple #[.string ⟨#[100, 105, 114, 116, 121, 32, 50, 32, 56, 32, 50, 32, 53, 10]⟩, .int .i64 0]) ∧ Below V.heap.size V w' := by
  have := report_ok AN AL 1 1 [dirty] [⟨A, 3, exL⟩] 10 40 V hN hL (fun x hx => by rw [List.mem_singleton] at hx; subst hx; exact h) (fun s hs => by rw [List.mem_singleton] at hs; subst hs; decide) hT
  rw [ex_rep] at this; exact this
theorem exSeries (A : Option Addr) (V : World) (hM : IAt V A 4 [10, 8, 30, 2]) : Calls Tryd.prog 38 #[.slice A 4 4] V fun e w' => ∃ A' c', e = .returned (sv A' 2 c') ∧ SAt w' A' c' [⟨10, 8⟩, ⟨30, 2⟩] ∧ Below V.heap.size V w' :=
  series_ok A 4 [10, 8, 30, 2] V hM (by decide)
theorem exSame (A B : Option Addr) (c d : Nat) (V : World) (hA : SAt V A c [⟨10, 8⟩, ⟨30, 2⟩]) (hB : SAt V B d [⟨10, 8⟩, ⟨30, 2⟩]) : Calls Tryd.prog 19 #[sv A 2 c, sv B 2 d] V fun e w' => e = .returned (.bool true) ∧ Below V.heap.size V w' :=
  same_self A B c d [⟨10, 8⟩, ⟨30, 2⟩] V hA hB
theorem ints4_at (w : World) (T : TypeId) (a b c d : Int) : IAt (w.alloc (.cells #[.int .i64 a, .int .i64 b, .int .i64 c, .int .i64 d] T)) (some ⟨w.heap.size, 0, none⟩) 4 [a, b, c, d] := by
  have h := new_at w (.cells #[.int .i64 a, .int .i64 b, .int .i64 c, .int .i64 d] T)
  refine ⟨Nat.le_refl _, by unfold maxLen; omega, fun j x hx => ⟨_, 0, rfl, lt_of_heap h, ?_⟩⟩
  rw [cell_of_row _ _ _ _ _ _ h]
  match j, hx with
  | 0, hx => cases hx; rfl
  | 1, hx => cases hx; rfl
  | 2, hx => cases hx; rfl
  | 3, hx => cases hx; rfl
  | n + 4, hx => simp at hx
theorem sample_fields : Tryd.prog.underlying 49 = some (.struct (Tryd.prog.fieldsOf 49)) := by kernel_rfl
theorem sample_held : Tryd.prog.stoodInHeld 49 = false := by kernel_rfl
theorem eql_sample (a b c d : Int) (w : World) : (binOp .eql 49 (.agg #[.int .i64 a, .int .i64 b]) (.agg #[.int .i64 c, .int .i64 d])).run Tryd.prog w = .ok (.bool (a == c && b == d)) w := by
  have u3 := Tryd.underlying2
  have a3 := Tryd.isAgg2
  have z3 := Tryd.sizeOf2
  rw [run_eql_struct, show (10000 : Nat) = 9999 + 1 from rfl, run_equalIn_agg w 9999 _ _ _ sample_fields sample_held]
  simp only [Program.fieldsOf, Tryd.underlying49]
  go_simp
  by_cases h1 : a = c <;> by_cases h2 : b = d <;> simp [h1, h2]
set_option maxRecDepth 100000 in
set_option maxHeartbeats 8000000 in
theorem shown_ok (W : World) (hT : Lib.TabIs Tryd.prog W "internal/strconv.uint64pow10" .u64 Lib.pow10Tab) : Calls Tryd.prog 11 #[] W fun e w' => e = .returned (.bool true) ∧ Below W.heap.size W w' := by
  have HT := Lib.hid (Lib.tabBelow_of_tabIs hT)
  clear hT
  go_enter Tryd.func11, Tryd.ntmps11
  go_upto_region 2 with (first | (go_at_call 37; refine (example_ok _).mono ?_; rintro e v1 ⟨g1, rfl, hs1, hb1⟩) | (go_at_call 12; refine (exArea _ _ hs1).mono ?_; rintro e v2 ⟨rfl, hb2⟩))
  have hw2 := (hb1.trans (hb2.mono hb1.size))
  obtain ⟨a1, ha1⟩ : ∃ a, a = v2.heap.size := ⟨_, rfl⟩
  have hx2 := below_box v2 (.cells #[.int .i64 0, .int .i64 150] 31)
  have z1 := new_at v2 (.cells #[.int .i64 0, .int .i64 150] 31)
  rw [← ha1] at z1 ⊢
  generalize v2.alloc (.cells #[.int .i64 0, .int .i64 150] 31) = V2 at *
  have H2 := Lib.hid (And.intro z1 (hw2.trans (hx2.mono hw2.size)))
  clear hs1 hb1 hb2 hw2 ha1 hx2 z1
  go_upto_region 3 with (first | (go_at_call 37; refine (example_ok _).mono ?_; rintro e v3 ⟨g2, rfl, hs3, hb3⟩) | (go_at_call 21; refine (exPeak _ _ hs3).mono ?_; rintro e v4 ⟨rfl, hb4⟩))
  have hw4 := (hb3.trans (hb4.mono hb3.size))
  obtain ⟨a3, ha3⟩ : ∃ a, a = v4.heap.size := ⟨_, rfl⟩
  have hx4 := below_box v4 (.cells #[.int .i64 20, .int .i64 8] 49)
  have z3 := new_at v4 (.cells #[.int .i64 20, .int .i64 8] 49)
  rw [← ha3] at z3 ⊢
  generalize v4.alloc (.cells #[.int .i64 20, .int .i64 8] 49) = V4 at *
  have hw5 := hw4.trans (hx4.mono hw4.size)
  have H4 := Lib.hid (And.intro (two_heap H2.out.1 hw5) (And.intro z3 (H2.out.2.trans (hw5.mono H2.out.2.size))))
  clear hs3 hb3 hb4 hw4 ha3 hx4 z3 hw5 H2
  go_upto_region 4 with (first | (go_at_call 37; refine (example_ok _).mono ?_; rintro e v5 ⟨g3, rfl, hs5, hb5⟩) | (go_at_call 14; refine (exQuant _ _ hs5).mono ?_; rintro e v6 ⟨rfl, hb6⟩))
  have hw6 := (hb5.trans (hb6.mono hb5.size))
  have H6 := Lib.hid (And.intro (two_heap H4.out.1 hw6) (And.intro (two_heap H4.out.2.1 hw6) (H4.out.2.2.trans (hw6.mono H4.out.2.2.size))))
  clear hs5 hb5 hb6 hw6 H4
  go_upto_region 5 with (first | (go_at_call 37; refine (example_ok _).mono ?_; rintro e v7 ⟨g4, rfl, hs7, hb7⟩) | (go_at_call 17; refine (exEnv _ _ hs7).mono ?_; rintro e v8 ⟨A8, c8, rfl, hs8, hb8⟩))
  have hw8 := (hb7.trans (hb8.mono hb7.size))
  obtain ⟨a7, ha7⟩ : ∃ a, a = v8.heap.size := ⟨_, rfl⟩
  have hx8 := below_box v8 (.cells #[.slice A8 2 c8] 24)
  have z7 := new_at v8 (.cells #[.slice A8 2 c8] 24)
  have hs9 := hs8.below hx8 (Nat.le_refl _)
  rw [← ha7] at z7 ⊢
  generalize v8.alloc (.cells #[.slice A8 2 c8] 24) = V8 at *
  have hw9 := hw8.trans (hx8.mono hw8.size)
  have H8 := Lib.hid (And.intro (two_heap H6.out.1 hw9) (And.intro (two_heap H6.out.2.1 hw9) (And.intro z7 (And.intro hs9 (H6.out.2.2.trans (hw9.mono H6.out.2.2.size))))))
  clear hs7 hs8 hb7 hb8 hw8 ha7 hx8 z7 hs9 hw9 H6
  have hNm : EAt enS 1 (V8.alloc (.cells #[.string dirty] 9)) (some ⟨V8.heap.size, 0, none⟩) 1 [dirty] := (OwnE.at ENS (owne_one ENS V8 9 dirty _ rfl)).1
  have hx9 := below_box V8 (.cells #[.string dirty] 9)
  have hLr := fun (v : World) (g : Nat) => (OwnE.at ENL (owne_one ENL v 24 ⟨some ⟨g, 0, none⟩, 3, exL⟩ #[.slice (some ⟨g, 0, none⟩) 3 3] rfl)).1
  have HN := Lib.hid (And.intro hNm (And.intro hx9 hLr))
  clear hNm hx9 hLr
  go_upto_region 6 with (first | (go_at_call 37; refine (example_ok _).mono ?_; rintro e v10 ⟨g5, rfl, hs10, hb10⟩; have hx11 := below_box v10 (.cells #[.slice (some ⟨g5, 0, none⟩) 3 3] 24); have hb12 := HN.out.2.1.trans ((hb10.trans (hx11.mono hb10.size)).mono HN.out.2.1.size); have HRP := Lib.hid (exRep _ _ _ _ ((HN.out.1.below hb10 (Nat.le_refl _)).below hx11 (Nat.le_refl _)) (HN.out.2.2 v10 g5) (hs10.below hx11 (Nat.le_refl _)) (HT.out _ (H8.out.2.2.2.2.trans (hb12.mono H8.out.2.2.2.2.size)))); have HB := Lib.hid hb12; clear hx11 hs10 hb10 hb12) | (go_at_call 39; refine HRP.out.mono ?_; rintro e v12 ⟨rfl, hb13⟩))
  have hb14 := HB.out.trans (hb13.mono HB.out.size)
  have hW14 := H8.out.2.2.2.2.trans (hb14.mono H8.out.2.2.2.2.size)
  have z1 := two_heap H8.out.1 hb14
  have z3 := two_heap H8.out.2.1 hb14
  have z7 := two_heap H8.out.2.2.1 hb14
  have hs14 := H8.out.2.2.2.1.below hb14 (Nat.le_refl _)
  clear hb13 HB HRP HN H8 hb14
  have hS2 : ∀ V, Below v12.heap.size v12 V → Below v12.heap.size v12 V ∧ V.cell? ⟨a1, 0, none⟩ = some (.int .i64 0) ∧ V.cell? ⟨a1, 1, none⟩ = some (.int .i64 150) ∧ V.cell? ⟨a3, 0, none⟩ = some (.int .i64 20) ∧ V.cell? ⟨a3, 1, none⟩ = some (.int .i64 8) ∧ V.cell? ⟨a7, 0, none⟩ = some (.slice A8 2 c8) := fun V hV => ⟨hV, cell_keep2 hV (two_at z1).1, cell_keep2 hV (two_at z1).2, cell_keep2 hV (two_at z3).1, cell_keep2 hV (two_at z3).2, cell_keep2 hV (one_at z7)⟩
  have hSa : ∀ V, Below v12.heap.size v12 V → SAt V A8 c8 [⟨10, 8⟩, ⟨30, 2⟩] := fun V hV => hs14.below hV (Nat.le_refl _)
  have HS2 := Lib.hid hS2
  have HSa := Lib.hid hSa
  have HW := Lib.hid hW14
  have HSE := Lib.hid (exSeries (some ⟨v12.heap.size, 0, none⟩) (v12.alloc (.cells #[.int .i64 10, .int .i64 8, .int .i64 30, .int .i64 2] 2)).drew (ints4_at v12 _ 10 8 30 2))
  have HBX := Lib.hid (below_drew (below_box v12 (.cells #[.int .i64 10, .int .i64 8, .int .i64 30, .int .i64 2] 2)))
  have s1 := hS2 v12.drew (below_drew (Below.refl _ _))
  have q1 := fun w => eql_area 0 150 0 150 w
  have q2 := fun w => eql_sample 20 8 20 8 w
  simp only [BEq.rfl, Bool.and_self] at q1 q2
  clear hS2 hSa hs14 z1 z3 z7 hW14
  go_region_held3 (fun V => Below v12.heap.size v12 V ∧ V.cell? ⟨a1, 0, none⟩ = some (.int .i64 0) ∧ V.cell? ⟨a1, 1, none⟩ = some (.int .i64 150) ∧ V.cell? ⟨a3, 0, none⟩ = some (.int .i64 20) ∧ V.cell? ⟨a3, 1, none⟩ = some (.int .i64 8) ∧ V.cell? ⟨a7, 0, none⟩ = some (.slice A8 2 c8))
    (first | assumption | exact HS2.out _ HBX.out | exact HS2.out _ (HBX.out.trans (hb16.mono HBX.out.size)) | exact HS2.out _ (hrun.trans (hb18.mono hrun.size)))
    (first | (go_at_call 38; ((with_reducible refine HSE.out.mono ?_); rintro e w16 ⟨A16, c16, rfl, hs16, hb16⟩; have hrun := HBX.out.trans (hb16.mono HBX.out.size))) | (go_at_call 19; ((with_reducible refine (exSame _ _ _ _ _ (HSa.out _ (And.left (by assumption))) hs16).mono ?_); rintro e w18 ⟨rfl, hb18⟩)))
  all_goals
    have HF := Lib.hid (HW.out.trans ((hrun.trans (hb18.mono hrun.size)).mono HW.out.size))
    go_wp2_with (fail)
    go_ret
    exact ⟨rfl, HF.out⟩
end Sx
end Go.Proofs.YtionocafkaemiaaDoor
