/- agrees of the law: both have the same state. -/
import Derived.Test.YtlknhbcambdccaaJZJ
import Derived.Deep.RegionHeld3
namespace Go.Proofs.Ytlknhbcambdccaa
open Go.RowKit
namespace Sl
open Bu

theorem run_slab_eq (w : World) (a b c d : Int) : (Op.equalIn 10000 39 (.agg #[.int .i64 a, .int .i64 b]) (.agg #[.int .i64 c, .int .i64 d])).run Try.prog w = .ok (a == c && b == d) w := by
  have hu : Try.prog.underlying 39 = some (.struct (Try.prog.fieldsOf 39)) := by kernel_rfl
  have hp : Try.prog.stoodInHeld 39 = false := by kernel_rfl
  have hf : (Try.prog.fieldsOf 39).toList.map (fun f => (f.name, f.type, f.offset)) = [("Page", 3, 0), ("Used", 3, 1)] := by kernel_rfl
  have he : Try.prog.plainKey 3 = true := by kernel_rfl
  have hi : Try.prog.underlying 3 = some (.int .i64) := by kernel_rfl
  rw [show (10000 : Nat) = 9999 + 1 from rfl, run_equalIn_struct w 9999 _ _ _ hu hp]
  generalize (Try.prog.fieldsOf 39).toList = fs at hf
  have hl : fs.length = 2 := by have := congrArg List.length hf; simpa using this
  obtain ⟨f, g, rfl⟩ : ∃ f g, fs = [f, g] := by
    cases fs with
    | nil => simp at hl
    | cons f fs => cases fs with
      | nil => simp at hl
      | cons g fs => cases fs with
        | nil => exact ⟨f, g, rfl⟩
        | cons h fs => simp at hl
  simp only [List.map_cons, List.map_nil, List.cons.injEq, Prod.mk.injEq, and_true] at hf
  obtain ⟨⟨f1, f2, f3⟩, g1, g2, g3⟩ := hf
  have p1 := fun (x y : Value) => run_part_plain (P := Try.prog) (w := w) he (xs := #[x, y]) (off := 0) (v := x) rfl
  have p2 := fun (x y : Value) => run_part_plain (P := Try.prog) (w := w) he (xs := #[x, y]) (off := 1) (v := y) rfl
  simp only [Op.eqFields, f1, f2, f3, g1, g2, g3, if_pos (show ("Page" : String) ≠ "_" by decide), if_pos (show ("Used" : String) ≠ "_" by decide), Sem.run_bind, p1, p2, Result.andThen, run_equalIn_int w 9998 3 .i64 .i64 _ _ hi]
  cases h1 : (a == c) with
  | false => simp
  | true =>
    cases h2 : (b == d) with
    | false => simp [Sem.run_bind, p2, Result.andThen, run_equalIn_int w 9998 3 .i64 .i64 _ _ hi, h2]
    | true => simp [Sem.run_bind, p2, Result.andThen, run_equalIn_int w 9998 3 .i64 .i64 _ _ hi, h2]


theorem run_slab_same (w : World) (a b : Int) : (binOp .neq 39 (.agg #[.int .i64 a, .int .i64 b]) (.agg #[.int .i64 a, .int .i64 b])).run Try.prog w = .ok (.bool false) w := by
  have h := run_slab_eq w a b a b
  rw [show (10000 : Nat) = Op.maxDepth from rfl] at h
  simp only [binOp]
  simp [Op.equal, h]

theorem view_get : ∀ (l : List Slb) (j : Nat) (x : Slb), l[j]? = some x → (viewS l)[j * 2]? = some (.int .i64 (x.pg : Int)) ∧ (viewS l)[j * 2 + 1]? = some (.int .i64 (x.many : Int)) := by
  intro l
  induction l with
  | nil => intro j x h; simp at h
  | cons y l ih =>
    intro j x h
    rw [show viewS (y :: l) = .int .i64 (y.pg : Int) :: .int .i64 (y.many : Int) :: viewS l from rfl]
    cases j with
    | zero => simp at h; subst h; exact ⟨rfl, rfl⟩
    | succ j =>
      have := ih j x (by simpa using h)
      rw [show (j + 1) * 2 = j * 2 + 2 by omega, show j * 2 + 2 + 1 = (j * 2 + 1) + 2 by omega]
      exact ⟨by simpa using this.1, by simpa using this.2⟩
/-- A row that Slabs returned. -/
theorem view_at {w : World} {B cp : Nat} {A : Option Addr} {l : List Slb} (h : w.ownsRow B 39 2 (.slice A l.length cp) l.length (viewS l)) {j : Nat} {x : Slb} (hx : l[j]? = some x) :
    ∃ g, A = some ⟨g, 0, none⟩ ∧ g < w.heap.size ∧ w.cell? ⟨g, j * 2, none⟩ = some (.int .i64 (x.pg : Int)) ∧ w.cell? ⟨g, j * 2 + 1, none⟩ = some (.int .i64 (x.many : Int)) := by
  have hj := (List.getElem?_eq_some_iff.1 hx).1
  obtain ⟨g, rfl⟩ := row_some h (by omega)
  obtain ⟨d0, d1⟩ := view_get l j x hx
  exact ⟨g, rfl, (h.lt g rfl).2, row_at h d0, row_at h d1⟩
theorem view_len {w : World} {B cp : Nat} {A : Option Addr} {l : List Slb} (h : w.ownsRow B 39 2 (.slice A l.length cp) l.length (viewS l)) : l.length ≤ cp ∧ cp ≤ maxLen := by
  rcases h.2 with ⟨hv, h0⟩ | ⟨g, cp', cur, hv, _, hg, h1, h2, _⟩
  · injection hv with _ _ e3; unfold maxLen; omega
  · injection hv with _ _ e3; omega

/-- What the last line of agrees reads. -/
def AgS (wb : World) (x b c r N : Nat) (A : Option Addr) (ln cG s o : Nat) (w' : World) : Prop :=
  Below wb.heap.size wb w' ∧ w'.cell? ⟨x, 0, none⟩ = some (.pointer (some ⟨b, 0, none⟩)) ∧ w'.cell? ⟨x, 1, none⟩ = some (.pointer (some ⟨c, 0, none⟩)) ∧ w'.cell? ⟨x, 2, none⟩ = some (.int .i64 (N : Int)) ∧ w'.cell? ⟨x, 3, none⟩ = some (.slice A ln cG) ∧ w'.cell? ⟨x, 4, none⟩ = some (.pointer (some ⟨r, 0, none⟩)) ∧ w'.cell? ⟨r, 1, none⟩ = some (.int .i64 (s : Int)) ∧ w'.cell? ⟨r, 2, none⟩ = some (.int .i64 (o : Int))
theorem AgS.below {wb : World} {x b c r N : Nat} {A : Option Addr} {ln cG s o : Nat} {V V' : World} (h : AgS wb x b c r N A ln cG s o V) (hb : Below V.heap.size V V') (hx : x < wb.heap.size) (hr : r < wb.heap.size) : AgS wb x b c r N A ln cG s o V' := by
  obtain ⟨h1, a0, a1, a2, a3, a4, a5, a6⟩ := h
  have hs := h1.size
  have hxv : x < V.heap.size := by omega
  have hrv : r < V.heap.size := by omega
  exact ⟨below_step h1 hb (Nat.le_refl _), (hb.cell (p := ⟨x, 0, none⟩) hxv).trans a0, (hb.cell (p := ⟨x, 1, none⟩) hxv).trans a1, (hb.cell (p := ⟨x, 2, none⟩) hxv).trans a2, (hb.cell (p := ⟨x, 3, none⟩) hxv).trans a3, (hb.cell (p := ⟨x, 4, none⟩) hxv).trans a4, (hb.cell (p := ⟨r, 1, none⟩) hrv).trans a5, (hb.cell (p := ⟨r, 2, none⟩) hrv).trans a6⟩

set_option maxRecDepth 100000 in
set_option maxHeartbeats 8000000 in
theorem agrees_ok (w0 : World) (Bp : Addr) (x c b r : Nat) (own own2 : Own?) (C : Ca) (N : Nat) (L : List Blk) (q : List RS) (A : Option Addr) (cG : Nat) (O : List Blk) (Ao : Option Addr) (co : Nat) (w : World) (h : Duo w0 Bp x c b r own own2 C N L q A cG O Ao co w) :
    Calls Try.prog 31 #[.pointer (some ⟨x, 0, none⟩)] w fun e w' => e = .returned (.bool true) ∧ Below w.heap.size w w' := by
  obtain ⟨n, hn⟩ : ∃ n, n = C.sl.length := ⟨_, rfl⟩
  have hqn : q.length = n := by rw [hn, ← h.refq, List.length_map]
  obtain ⟨M, hM⟩ : ∃ M, M = objC C := ⟨_, rfl⟩
  have hln := ok_len h.prog.held.ok
  rw [← hn] at hln
  have hMr : objC (refC C.size C.order C.keep q) = M := by rw [hM]; unfold refC; rw [h.refq]
  obtain ⟨x0, x1, x2, x3, x4, _⟩ := six_cells h.wrld
  have hxl := lt_of_heap h.wrld
  have HX := Lib.hid (And.intro h (And.intro hn (And.intro hqn (And.intro hM hMr))))
  have h1 := h.prog.objects
  rw [← hM] at h1
  have H1 := Lib.hid h1
  clear h hn hqn hM hMr h1
  go_enter Try.func31, Try.ntmps31
  go_wp2_with (go_at_call 19; fail)
  refine H1.out.mono ?_
  rintro _ W1 ⟨⟨Al, cl, rfl, hol⟩, hm1, hb1⟩
  have h2 := hm1.slabs
  rw [← HX.out.2.1] at h2
  replace x1 := (hb1.cell (p := ⟨x, 1, none⟩) hxl).trans x1
  replace x4 := (hb1.cell (p := ⟨x, 4, none⟩) hxl).trans x4
  have H2 := Lib.hid h2
  obtain ⟨nl, hnl⟩ : ∃ nl, nl = M.length := ⟨_, rfl⟩
  rw [← hnl]
  have HB1 := Lib.hid (And.intro hb1 (And.intro (own64_at hol) hnl))
  have hxl1 : x < W1.heap.size := Nat.lt_of_lt_of_le hxl hb1.size
  clear hol hm1 hb1 h2 hnl
  go_wp2_with (go_at_call 14; fail)
  refine H2.out.mono ?_
  rintro _ W2 ⟨⟨As, cs, rfl, hos⟩, hm2, hb2⟩
  have h3 := hm2.capacity
  replace x1 := (hb2.cell (p := ⟨x, 1, none⟩) hxl1).trans x1
  replace x4 := (hb2.cell (p := ⟨x, 4, none⟩) hxl1).trans x4
  obtain ⟨kc, hkc⟩ : ∃ kc, kc = capa C.size C.order := ⟨_, rfl⟩
  rw [← hkc] at h3
  have H3 := Lib.hid h3
  have hxl2 : x < W2.heap.size := Nat.lt_of_lt_of_le hxl1 hb2.size
  have HB2 := Lib.hid (And.intro hb2 (And.intro hos hkc))
  clear hos hm2 hb2 h3 hkc
  go_wp2_with (go_at_call 29; fail)
  refine H3.out.mono ?_
  rintro _ W3 ⟨rfl, hm3, hb3⟩
  replace x4 := (hb3.cell (p := ⟨x, 4, none⟩) hxl2).trans x4
  have hbw3 : Below w.heap.size w W3 := below_step (below_step HB1.out.1 HB2.out.1 (Nat.le_refl _)) hb3 (Nat.le_refl _)
  have hd3 := HX.out.1.below hbw3
  have h4 := slabsR_ok W3 own2 r Bp C.size C.order C.keep N L q hd3.ref hd3.fr2 hd3.refok
  rw [HX.out.2.2.1] at h4
  have H4 := Lib.hid h4
  have hxl3 : x < W3.heap.size := lt_of_heap hd3.wrld
  have HB3 := Lib.hid (And.intro hb3 hbw3)
  clear hm3 hb3 hbw3 hd3 h4
  go_wp2_with (go_at_call 62; fail)
  refine H4.out.mono ?_
  rintro _ W4 ⟨⟨Aw, cw, rfl, how⟩, hb4⟩
  have hb24 : Below W2.heap.size W2 W4 := below_step HB3.out.1 hb4 (Nat.le_refl _)
  have hos4 : W4.ownsRow W1.heap.size 39 2 (.slice As C.sl.length cs) C.sl.length (viewS C.sl) := by
    rw [← HX.out.2.1]
    exact row_keep HB2.out.2.1 fun z _ hz => hb24.block z hz
  have how4 : W4.ownsRow W3.heap.size 39 2 (.slice Aw C.sl.length cw) C.sl.length (viewS C.sl) := by
    rw [← HX.out.2.1]
    rw [HX.out.1.refq] at how
    exact how
  have hl1 := view_len hos4
  have hl2 := view_len how4
  rw [← HX.out.2.1] at hl1 hl2
  obtain ⟨hl1, hl3⟩ := hl1
  obtain ⟨hl2, hl4⟩ := hl2
  unfold maxLen at hl3 hl4
  have hnn : ((n : Int) != (n : Int)) = false := by simp
  have hbw4 : Below w.heap.size w W4 := below_step HB3.out.2 hb4 (Nat.le_refl _)
  have H4' := Lib.hid (And.intro hos4 (And.intro how4 (And.intro hbw4 hb4)))
  clear hos4 how4 how hbw4 hb4 hb24
  have hlM : 0 ≤ nl := Nat.zero_le _
  have hbnd : True := trivial
  go_wp2_with (fail)
  go_loopw [10] (fun i wr => ∃ k : Nat, k ≤ n ∧ i = .int .i64 (k : Int) ∧ ∃ m, wr = W4.drewN m) (fun i _ => n - (intOf i).toNat)
  case atStart => exact ⟨0, Nat.zero_le _, rfl, 0, rfl⟩
  case round =>
    obtain ⟨k, hk, rfl, m, hm⟩ := hrel
    have e0 : (0 : Int) ≤ (k : Int) := by omega
    by_cases hlt : k < n
    · have e1 : (k : Int) < (n : Int) := by omega
      have hkk : IntKind.i64.wrap ((k : Int) + 1) = ((k + 1 : Nat) : Int) := by rw [IntWalk.i64_in _ (by omega)]; rfl
      obtain ⟨y, hy⟩ : ∃ y, C.sl[k]? = some y := ⟨_, List.getElem?_eq_getElem (by have := HX.out.2.1; omega)⟩
      obtain ⟨g1, rfl, _, a0, a1⟩ := view_at H4'.out.1 hy
      obtain ⟨g2, rfl, _, b0, b1⟩ := view_at H4'.out.2.1 hy
      replace a0 : wr.cell? ⟨g1, k * 2, none⟩ = some (.int .i64 (y.pg : Int)) := by rw [hm]; exact a0
      replace a1 : wr.cell? ⟨g1, k * 2 + 1, none⟩ = some (.int .i64 (y.many : Int)) := by rw [hm]; exact a1
      replace b0 : wr.cell? ⟨g2, k * 2, none⟩ = some (.int .i64 (y.pg : Int)) := by rw [hm]; exact b0
      replace b1 : wr.cell? ⟨g2, k * 2 + 1, none⟩ = some (.int .i64 (y.many : Int)) := by rw [hm]; exact b1
      have hne := fun W => run_slab_same W (y.pg : Int) (y.many : Int)
      have HM := Lib.hid hm
      clear hm hy
      go_wp2_with (fail)
      go_quiet (fail)
      go_wp2
      go_roundw
      case rel => exact ⟨k + 1, by omega, by go_num, _, by rw [HM.out]; exact World.drewN_drewN ..⟩
      case measure => simp [intOf]; omega
    · obtain rfl : k = n := by omega
      have e1 : ¬ ((k : Nat) : Int) < (k : Int) := by omega
      have hbl : Below w.heap.size w wr := by rw [hm]; exact below_drewN H4'.out.2.2.1 _
      have hil : I64At wr Al cl M := by
        rw [hm]
        exact (HB1.out.2.1.below (below_step (below_step HB2.out.1 HB3.out.1 (Nat.le_refl _)) H4'.out.2.2.2 (Nat.le_refl _))).below (below_drew W4 m)
      clear hm
      have hd := HX.out.1.below hbl
      obtain ⟨ln, hlnn⟩ : ∃ ln, ln = L.length := ⟨_, rfl⟩
      obtain ⟨y0, y1, y2, y3, y4, _⟩ := six_cells hd.wrld
      rw [← hlnn] at y3
      obtain ⟨Ar, cr, hrc, _⟩ := hd.ref.cell
      obtain ⟨_, c1, c2, _⟩ := five_cells hrc
      have hxb := lt_of_heap hd.wrld
      have hrb := lt_of_heap hrc
      have hS0 : AgS wr x b c r N A ln cG C.size C.order (World.drew wr) := ⟨below_drew wr 1, y0, y1, y2, y3, y4, c1, c2⟩
      obtain ⟨l, hl⟩ : ∃ l, l = saveS C.sl := ⟨_, rfl⟩
      have hlk : l.length = k := by rw [hl, saveS_len, HX.out.2.1]
      have HRO : Hid (∀ V, Below wr.heap.size wr V → Calls Try.prog 53 #[.pointer (some ⟨r, 0, none⟩)] V fun e V' => (∃ A cp, e = .returned (.slice A nl cp) ∧ I64At V' A cp M) ∧ Below V.heap.size V V') := Lib.hid fun V hb => by
        have h2 := hd.below hb
        refine (objectsR_ok V own2 r Bp C.size C.order C.keep N L q h2.ref h2.fr2 h2.refok).mono ?_
        rintro e V' ⟨⟨A, cp, he, ho⟩, hb⟩
        rw [HX.out.2.2.2.2] at he ho
        rw [← HB1.out.2.2] at he
        exact ⟨⟨A, cp, he, own64_at ho⟩, hb⟩
      have HIn : Hid (∀ V A cp, Below wr.heap.size wr V → I64At V A cp M → Calls Try.prog 63 #[.slice Al nl cl, .slice A nl cp] V fun e V' => e = .returned (.bool true) ∧ Below V.heap.size V V') := Lib.hid fun V A cp hb hA => by
        have := ints_ok V Al A cl cp M (hil.below hb) hA
        rw [← HB1.out.2.2] at this; exact this
      have HCa : Hid (∀ V, Calls Try.prog 64 #[.int .i64 (C.size : Int), .int .i64 (C.order : Int)] V fun e V' => e = .returned (.int .i64 (kc : Int)) ∧ V = V') := Lib.hid fun V => by
        have := capacityR_ok V C.size C.order hd.prog.held.ok.sz.1 hd.prog.held.ok.od
        rw [← HB2.out.2.2] at this; exact this
      have HSp : Hid (∀ V, Below wr.heap.size wr V → Calls Try.prog 27 #[.pointer (some ⟨c, 0, none⟩)] V fun e V' => (∃ A cp, e = .returned (stv (C.size : Int) (C.order : Int) (C.keep : Int) A k cp) ∧ SbAt 0 V' A cp l) ∧ Below V.heap.size V V') := Lib.hid fun V hb => by
        refine (saveS_ok V own c b C N L (hd.below hb).prog.held).mono ?_
        rintro e V' ⟨⟨A, cp, he, ho⟩, hb⟩
        rw [← HX.out.2.1] at he
        exact ⟨⟨A, cp, he, hl ▸ SbAt.low (Nat.zero_le _) ho⟩, hb⟩
      have HSr : Hid (∀ V, Below wr.heap.size wr V → Calls Try.prog 65 #[.pointer (some ⟨r, 0, none⟩)] V fun e V' => (∃ A cp, e = .returned (stv (C.size : Int) (C.order : Int) (C.keep : Int) A k cp) ∧ SbAt 0 V' A cp l) ∧ Below V.heap.size V V') := Lib.hid fun V hb => by
        have h2 := hd.below hb
        refine (saveR_ok V own2 r Bp C.size C.order C.keep N L q h2.ref h2.refok).mono ?_
        rintro e V' ⟨⟨A, cp, he, ho⟩, hb⟩
        rw [HX.out.2.2.1] at he
        rw [h2.refq] at ho
        exact ⟨⟨A, cp, he, hl ▸ SbAt.low (Nat.zero_le _) ho⟩, hb⟩
      have HSa : Hid (∀ V A B c1 d1, SbAt 0 V A c1 l → SbAt 0 V B d1 l → Calls Try.prog 28 #[stv (C.size : Int) (C.order : Int) (C.keep : Int) A k c1, stv (C.size : Int) (C.order : Int) (C.keep : Int) B k d1] V fun e V' => e = .returned (.bool true) ∧ Below V.heap.size V V') := Lib.hid fun V A B c1 d1 hA hB => by
        have := sameS_ok V (C.size : Int) (C.order : Int) (C.keep : Int) A B c1 d1 l hA hB
        rw [hlk] at this; exact this
      have HBs : Hid (∀ V, Below wr.heap.size wr V → Calls Try.prog 18 #[.pointer (some ⟨b, 0, none⟩)] V fun e V' => (∃ A cp, e = .returned (sv N A ln cp) ∧ BlkAt V' A cp L) ∧ Below V.heap.size V V') := Lib.hid fun V hb => by
        refine (save_ok V b N L (hd.below hb).prog.held.bu).mono ?_
        rintro e V' ⟨⟨A, cp, he, ho⟩, hb⟩
        rw [← hlnn] at he
        exact ⟨⟨A, cp, he, ho.at.1⟩, hb⟩
      have HS8 : Hid (∀ V A1 c1, Below wr.heap.size wr V → BlkAt V A1 c1 L → Calls Try.prog 21 #[sv N A1 ln c1, sv N A ln cG] V fun e V' => e = .returned (.bool true) ∧ Below V.heap.size V V') := Lib.hid fun V A1 c1 hb hA => by
        have := same_self V N A1 A c1 cG L hA (hd.st.1.below hb)
        rw [← hlnn] at this; exact this
      have HF := Lib.hid hbl
      clear hd hlnn hrc hil hl hlk hbl hnn hlM hbnd x1 x4
      have hkcc : ((kc : Int) == (kc : Int)) = true := by simp
      go_wp2_with (fail)
      unfold AgS at hS0
      go_region_held3 (fun w' => Below wr.heap.size wr w' ∧ w'.cell? ⟨x, 0, none⟩ = some (.pointer (some ⟨b, 0, none⟩)) ∧ w'.cell? ⟨x, 1, none⟩ = some (.pointer (some ⟨c, 0, none⟩)) ∧ w'.cell? ⟨x, 2, none⟩ = some (.int .i64 (N : Int)) ∧ w'.cell? ⟨x, 3, none⟩ = some (.slice A ln cG) ∧ w'.cell? ⟨x, 4, none⟩ = some (.pointer (some ⟨r, 0, none⟩)) ∧ w'.cell? ⟨r, 1, none⟩ = some (.int .i64 (C.size : Int)) ∧ w'.cell? ⟨r, 2, none⟩ = some (.int .i64 (C.order : Int)))
        (first | assumption | exact hS0 | exact AgS.below (by assumption) hb5 hxb hrb | exact AgS.below (by assumption) hb6 hxb hrb | exact AgS.below (by assumption) hb7 hxb hrb | exact AgS.below (by assumption) hb8 hxb hrb | exact AgS.below (by assumption) hb9 hxb hrb | exact AgS.below (by assumption) hb10 hxb hrb | exact AgS.below (by assumption) hb11 hxb hrb)
        (first
        | (go_at_call 53; refine (HRO.out _ (And.left (by assumption))).mono ?_; rintro _ W5 ⟨⟨A5, c5, rfl, h5⟩, hb5⟩; have H5 := Lib.hid h5; clear h5)
        | (go_at_call 63; refine (HIn.out _ _ _ (And.left (by assumption)) H5.out).mono ?_; rintro _ W6 ⟨rfl, hb6⟩)
        | (go_at_call 64; refine (HCa.out _).mono ?_; rintro _ _ ⟨rfl, rfl⟩)
        | (go_at_call 27; refine (HSp.out _ (And.left (by assumption))).mono ?_; rintro _ W7 ⟨⟨A7, c7, rfl, h7⟩, hb7⟩; have H7 := Lib.hid (And.intro h7 hb7); clear h7)
        | (go_at_call 65; refine (HSr.out _ (And.left (by assumption))).mono ?_; rintro _ W8 ⟨⟨A8, c8, rfl, h8⟩, hb8⟩; have H8 := Lib.hid (And.intro h8 hb8); clear h8)
        | (go_at_call 28; (first | refine (HSa.out _ _ _ _ _ (H7.out.1.below H8.out.2) H8.out.1).mono ?_ | refine (HSa.out _ _ _ _ _ H7.out.1 (H8.out.1.below H7.out.2)).mono ?_); rintro _ W9 ⟨rfl, hb9⟩)
        | (go_at_call 18; refine (HBs.out _ (And.left (by assumption))).mono ?_; rintro _ W10 ⟨⟨A10, c10, rfl, h10⟩, hb10⟩; have H10 := Lib.hid h10; clear h10)
        | (go_at_call 21; refine (HS8.out _ _ _ (And.left (by assumption)) H10.out).mono ?_; rintro _ W11 ⟨rfl, hb11⟩))
      all_goals
        go_wp2_with (fail)
        go_ret
        exact ⟨rfl, below_step HF.out (And.left (by assumption)) (Nat.le_refl _)⟩
end Sl
end Go.Proofs.Ytlknhbcambdccaa
