/- The reference: give. The reference: give of a piece. The reference's states in blocks of their own: Cop; append from a row that may be nil. -/
import Derived.Test.YtllmddhahpegmaaM15
import Derived.Laws.AppendOwnNone
import Derived.OwnWalk
namespace Go.Proofs.Ytllmddhahpegmaa
open Go.RowKit
namespace Ne

/-- The item that the reference's give returns. -/
def gItem (M : Tr) (i sz al : Int) : Item := if (give M i sz al).2 = 0 then ⟨(give M i sz al).1, sz, -1⟩ else ⟨0, 0, 0⟩
def GiveR (M : Tr) (i sz al : Int) (e : Ending) : Prop :=
  e = .returned (.tuple #[.agg #[.int .i64 (gItem M i sz al).a, .int .i64 (gItem M i sz al).s, .int .i64 (gItem M i sz al).c], .int .i64 (give M i sz al).2])

theorem up_unique (x q al : Int) (h1 : 1 ≤ al) (h2 : x ≤ q) (h3 : q ≤ up x al) (h4 : q % al = 0) : q = up x al := by
  have h5 := up_le x al h1
  have h6 : up x al % al = 0 := by unfold up; exact Int.mul_emod_left _ _
  have h7 : (up x al - q) % al = 0 := by rw [Int.sub_emod, h6, h4]; simp
  have h8 : (up x al - q) % al = up x al - q := Int.emod_eq_of_lt (by omega) (by omega)
  omega

theorem up_more (x q al : Int) (h1 : 1 ≤ al) (h3 : q ≤ up x al) (h4 : q % al ≠ 0) : q + 1 ≤ up x al := by
  have h6 : up x al % al = 0 := by unfold up; exact Int.mul_emod_left _ _
  rcases Int.lt_or_eq_of_le h3 with h | h
  · omega
  · rw [h] at h4; exact absurd h6 h4

theorem three_cells {w : World} {b T : Nat} {x y z : Value} (h : w.heap[b]? = some (.cells #[x, y, z] T (0, 0))) :
    w.cell? ⟨b, 0, none⟩ = some x ∧ w.cell? ⟨b, 1, none⟩ = some y ∧ w.cell? ⟨b, 2, none⟩ = some z ∧ w.frozen? ⟨b, 0, none⟩ = false ∧ w.frozen? ⟨b, 1, none⟩ = false ∧ w.frozen? ⟨b, 2, none⟩ = false := by
  refine ⟨?_, ?_, ?_, ?_, ?_, ?_⟩ <;> simp [World.cell?, World.frozen?, h]

theorem three_set {w : World} {b T : Nat} {x y z x' y' z' : Value} (h : w.heap[b]? = some (.cells #[x, y, z] T (0, 0))) :
    (((w.setCell ⟨b, 0, none⟩ x').setCell ⟨b, 1, none⟩ y').setCell ⟨b, 2, none⟩ z').heap[b]? = some (.cells #[x', y', z'] T (0, 0)) := by
  have h1 := setCell_at w b 0 _ T x' h
  have h2 := setCell_at _ b 1 _ T y' h1
  have h3 := setCell_at _ b 2 _ T z' h2
  rw [h3]; rfl

/-- The world behind the boxes of give. -/
def gW (w : World) (A : Option Addr) (c : Nat) (M : Tr) : World := (w.alloc (.cells #[.slice A M.length c] 28)).alloc (.cells #[.int .i64 0, .int .i64 0, .int .i64 0] 54)

theorem gW_below (w : World) (A : Option Addr) (c : Nat) (M : Tr) : Below w.heap.size w (gW w A c M) := (below_box w (.cells #[.slice A M.length c] 28)).trans ((below_box _ (.cells #[.int .i64 0, .int .i64 0, .int .i64 0] 54)).mono (by simp))
theorem gW_size (w : World) (A : Option Addr) (c : Nat) (M : Tr) : (gW w A c M).heap.size = w.heap.size + 2 := by simp [gW]
theorem gW_box (w : World) (A : Option Addr) (c : Nat) (M : Tr) : (gW w A c M).cell? ⟨w.heap.size, 0, none⟩ = some (.slice A M.length c) := by
  unfold gW
  rw [World.cell?_alloc_lt _ _ _ (by simp), World.cell?_alloc_at _ _ _ _ rfl]; rfl
theorem gW_res (w : World) (A : Option Addr) (c : Nat) (M : Tr) : (gW w A c M).heap[w.heap.size + 1]? = some (.cells #[.int .i64 0, .int .i64 0, .int .i64 0] 54 (0, 0)) := by
  unfold gW
  rw [heapAlloc, if_pos (by simp)]

set_option maxHeartbeats 1000000 in
theorem giveR_none (K : Nat → Prop) (w : World) (A : Option Addr) (c : Nat) (M : Tr) (i sz al : Int) (h : StK K w A c (save M)) (hf : find M i = none) :
    Calls Try.prog 58 #[.agg #[.slice A M.length c], .int .i64 i, .int .i64 sz, .int .i64 al] w fun e w' => GiveR M i sz al e ∧ Below w.heap.size w w' := by
  obtain ⟨hc1, hc2⟩ := st_len h
  have hgv : give M i sz al = (0, 4) := by simp [give, hf]
  have HO := Lib.hid (open_no K _ A c M i (h.below (gW_below w A c M)) hf)
  have HG : Hid (GiveR M i sz al (.returned (.tuple #[.agg #[.int .i64 0, .int .i64 0, .int .i64 0], .int .i64 4]))) := Lib.hid (by unfold GiveR gItem; rw [hgv]; rfl)
  have HB := Lib.hid (gW_below w A c M)
  have hsz := gW_size w A c M
  have hbc := gW_box w A c M
  have hre := gW_res w A c M
  clear h hf hgv
  go_enter Try.func58, Try.ntmps58
  go_wp2_with (go_at_call 52; fail)
  have hgW : (w.alloc (.cells #[.slice A M.length c] 28)).alloc (.cells #[.int .i64 0, .int .i64 0, .int .i64 0] 54) = gW w A c M := rfl
  rw [hgW]
  generalize gW w A c M = W2 at *
  clear hgW
  refine HO.out.mono ?_
  rintro e w1 ⟨rfl, hb1⟩
  replace hre := (hb1.block _ (show w.heap.size + 1 < W2.heap.size by omega)).trans hre
  obtain ⟨x0, x1, x2, z0, z1, z2⟩ := three_cells hre
  have HB1 := Lib.hid (And.intro hb1 hre)
  clear hb1 hre hbc
  go_wp2
  have hr3 := three_set (x' := .int .i64 0) (y' := .int .i64 0) (z' := .int .i64 0) HB1.out.2
  obtain ⟨y0, y1, y2, _⟩ := three_cells hr3
  refine bodyPost_ret (v := .tuple #[.agg #[.int .i64 0, .int .i64 0, .int .i64 0], .int .i64 4]) (by simp [results, Try.results58, go_sem, y0, y1, y2]) rfl ⟨HG.out, ?_⟩
  exact HB.out.trans ((((HB1.out.1.mono (by omega)).setCell (by show w.heap.size ≤ _; simp) _).setCell (by show w.heap.size ≤ _; simp) _).setCell (by show w.heap.size ≤ _; simp) _)

set_option maxHeartbeats 1000000 in
theorem giveR_bad (K : Nat → Prop) (w : World) (A : Option Addr) (c : Nat) (M : Tr) (i sz al : Int) (n : Node) (h : StK K w A c (save M)) (hf : find M i = some n) (hb : badArg sz al = true) :
    Calls Try.prog 58 #[.agg #[.slice A M.length c], .int .i64 i, .int .i64 sz, .int .i64 al] w fun e w' => GiveR M i sz al e ∧ Below w.heap.size w w' := by
  obtain ⟨hc1, hc2⟩ := st_len h
  have hgv : give M i sz al = (0, 2) := by simp [give, hf, hb]
  have HO := Lib.hid (open_yes K _ A c M i n (h.below (gW_below w A c M)) hf)
  have HG : Hid (GiveR M i sz al (.returned (.tuple #[.agg #[.int .i64 0, .int .i64 0, .int .i64 0], .int .i64 2]))) := Lib.hid (by unfold GiveR gItem; rw [hgv]; rfl)
  have HB := Lib.hid (gW_below w A c M)
  have hsz := gW_size w A c M
  have hre := gW_res w A c M
  have hcs : sz < 1 ∨ 1 ≤ sz ∧ 65536 < sz ∨ 1 ≤ sz ∧ sz ≤ 65536 ∧ ([1, 2, 4, 8, 16, 32, 64, 128, 256, 512, 1024, 2048, 4096] : List Int).contains al = false := by
    unfold badArg at hb
    rw [Bool.or_eq_true, Bool.or_eq_true] at hb
    rcases hb with (hb | hb) | hb
    · have := of_decide_eq_true hb
      omega
    · have := of_decide_eq_true hb
      by_cases h1 : sz < 1
      · exact .inl h1
      · omega
    · by_cases h1 : sz < 1
      · exact .inl h1
      · by_cases h2 : 65536 < sz
        · exact .inr (.inl ⟨by omega, h2⟩)
        · exact .inr (.inr ⟨by omega, by omega, by simpa using hb⟩)
  have HP := Lib.hid (fun w => power_ok w al)
  clear h hf hgv hb
  rcases hcs with hcs | ⟨hcs, hct⟩ | ⟨hcs, hct, hcu⟩
  · go_enter Try.func58, Try.ntmps58
    go_wp2_with (go_at_call 52; fail)
    have hgW : (w.alloc (.cells #[.slice A M.length c] 28)).alloc (.cells #[.int .i64 0, .int .i64 0, .int .i64 0] 54) = gW w A c M := rfl
    rw [hgW]
    generalize gW w A c M = W2 at *
    clear hgW
    refine HO.out.mono ?_
    rintro e w1 ⟨rfl, hb1⟩
    replace hre := (hb1.block _ (show w.heap.size + 1 < W2.heap.size by omega)).trans hre
    obtain ⟨x0, x1, x2, z0, z1, z2⟩ := three_cells hre
    have HB1 := Lib.hid (And.intro hb1 hre)
    clear hb1 hre
    go_wp2
    have hr3 := three_set (x' := .int .i64 0) (y' := .int .i64 0) (z' := .int .i64 0) HB1.out.2
    obtain ⟨y0, y1, y2, _⟩ := three_cells hr3
    refine bodyPost_ret (v := .tuple #[.agg #[.int .i64 0, .int .i64 0, .int .i64 0], .int .i64 2]) (by simp [results, Try.results58, go_sem, y0, y1, y2]) rfl ⟨HG.out, ?_⟩
    exact HB.out.trans ((((HB1.out.1.mono (by omega)).setCell (by show w.heap.size ≤ _; simp) _).setCell (by show w.heap.size ≤ _; simp) _).setCell (by show w.heap.size ≤ _; simp) _)
  · go_enter Try.func58, Try.ntmps58
    go_wp2_with (go_at_call 52; fail)
    have hgW : (w.alloc (.cells #[.slice A M.length c] 28)).alloc (.cells #[.int .i64 0, .int .i64 0, .int .i64 0] 54) = gW w A c M := rfl
    rw [hgW]
    generalize gW w A c M = W2 at *
    clear hgW
    refine HO.out.mono ?_
    rintro e w1 ⟨rfl, hb1⟩
    replace hre := (hb1.block _ (show w.heap.size + 1 < W2.heap.size by omega)).trans hre
    obtain ⟨x0, x1, x2, z0, z1, z2⟩ := three_cells hre
    have HB1 := Lib.hid (And.intro hb1 hre)
    clear hb1 hre
    go_wp2
    have hr3 := three_set (x' := .int .i64 0) (y' := .int .i64 0) (z' := .int .i64 0) HB1.out.2
    obtain ⟨y0, y1, y2, _⟩ := three_cells hr3
    refine bodyPost_ret (v := .tuple #[.agg #[.int .i64 0, .int .i64 0, .int .i64 0], .int .i64 2]) (by simp [results, Try.results58, go_sem, y0, y1, y2]) rfl ⟨HG.out, ?_⟩
    exact HB.out.trans ((((HB1.out.1.mono (by omega)).setCell (by show w.heap.size ≤ _; simp) _).setCell (by show w.heap.size ≤ _; simp) _).setCell (by show w.heap.size ≤ _; simp) _)
  · rw [hcu] at HP
    clear hcu
    go_enter Try.func58, Try.ntmps58
    go_wp2_with (go_at_call 52; fail)
    have hgW : (w.alloc (.cells #[.slice A M.length c] 28)).alloc (.cells #[.int .i64 0, .int .i64 0, .int .i64 0] 54) = gW w A c M := rfl
    rw [hgW]
    generalize gW w A c M = W2 at *
    clear hgW
    refine HO.out.mono ?_
    rintro e w1 ⟨rfl, hb1⟩
    replace hre := (hb1.block _ (show w.heap.size + 1 < W2.heap.size by omega)).trans hre
    obtain ⟨x0, x1, x2, z0, z1, z2⟩ := three_cells hre
    have HB1 := Lib.hid (And.intro hb1 hre)
    clear hb1 hre
    go_wp2_with (go_at_call 69; refine (HP.out _).mono ?_; rintro e w2 ⟨rfl, rfl⟩)
    have hr3 := three_set (x' := .int .i64 0) (y' := .int .i64 0) (z' := .int .i64 0) HB1.out.2
    obtain ⟨y0, y1, y2, _⟩ := three_cells hr3
    refine bodyPost_ret (v := .tuple #[.agg #[.int .i64 0, .int .i64 0, .int .i64 0], .int .i64 2]) (by simp [results, Try.results58, go_sem, y0, y1, y2]) rfl ⟨HG.out, ?_⟩
    exact HB.out.trans ((((HB1.out.1.mono (by omega)).setCell (by show w.heap.size ≤ _; simp) _).setCell (by show w.heap.size ≤ _; simp) _).setCell (by show w.heap.size ≤ _; simp) _)
end Ne
end Go.Proofs.Ytllmddhahpegmaa
namespace Go.Proofs.Ytllmddhahpegmaa
open Go.RowKit
namespace Ne

theorem node_set {w : World} {b : Nat} {o : Obj} {x0 x1 x2 x3 x4 : Value} (h : w.heap[b]? = some (.cells #[x0, x1, x2, x3, x4] 35 (0, 0))) :
    w.cell? ⟨b, 0, none⟩ = some x0 ∧ w.cell? ⟨b, 1, none⟩ = some x1 ∧ w.cell? ⟨b, 2, none⟩ = some x2 ∧ w.cell? ⟨b, 3, none⟩ = some x3 ∧ w.cell? ⟨b, 4, none⟩ = some x4 := by
  refine ⟨?_, ?_, ?_, ?_, ?_⟩ <;> simp [World.cell?, h]

set_option maxHeartbeats 2000000 in
theorem giveR_some (K : Nat → Prop) (w : World) (A : Option Addr) (c : Nat) (M : Tr) (i sz al : Int) (n : Node) (h : StK K w A c (save M)) (hg : Good M) (hf : find M i = some n) (hb : badArg sz al = false) :
    Calls Try.prog 58 #[.agg #[.slice A M.length c], .int .i64 i, .int .i64 sz, .int .i64 al] w fun e w' => GiveR M i sz al e ∧ Below w.heap.size w w' := by
  obtain ⟨hc1, hc2⟩ := st_len h
  obtain ⟨b1, b2, b3, b4, b5⟩ := badArg_no hb
  have hgv : give M i sz al = if n.a + n.s < up n.fin al + sz ∨ n.l.length = 200 then (0, 5) else (up n.fin al, 0) := by simp [give, hf, hb]
  obtain ⟨h0, hi⟩ := find_some hf
  have hO := open_yes K _ A c M i n (h.below (gW_below w A c M)) hf
  obtain ⟨k, rfl⟩ := Int.eq_ofNat_of_zero_le h0
  rw [Int.toNat_natCast] at hi
  have hk := (List.getElem?_eq_some_iff.1 hi).1
  have hok := hg.node k n hi
  have hfin := hok.fin
  have ha := hok.a0
  have hs := hok.s1
  have ht := hok.top
  have hl := hok.len
  obtain ⟨g, f, B, cB, rfl, hgl, p0, p1, p2, p3, p4, hR⟩ := st_at (h.below (gW_below w A c M)) hi
  have HE := Lib.hid (fun w2 (hb : Below (gW w (some ⟨g, f, none⟩) c M).heap.size _ w2) => endR_ok K w2 n B cB (RowK.below hR hb) (small_of hok) hok.len)
  unfold EndAt at HE
  have hu1 := up_ge n.fin al b3
  have hu2 := up_le n.fin al b3
  have HU := Lib.hid (fun q h1 h2 h3 => up_unique n.fin q al b3 h1 h2 h3)
  have HV := Lib.hid (fun q h1 h2 => up_more n.fin q al b3 h1 h2)
  replace p0 : (gW w (some ⟨g, f, none⟩) c M).cell? ⟨g, f + k * 5, none⟩ = some (.int .i64 n.p) := p0
  replace p1 : (gW w (some ⟨g, f, none⟩) c M).cell? ⟨g, f + k * 5 + 1, none⟩ = some (.int .i64 n.a) := p1
  replace p2 : (gW w (some ⟨g, f, none⟩) c M).cell? ⟨g, f + k * 5 + 2, none⟩ = some (.int .i64 n.s) := p2
  replace p3 : (gW w (some ⟨g, f, none⟩) c M).cell? ⟨g, f + k * 5 + 3, none⟩ = some (.slice B n.l.length cB) := p3
  replace p4 : (gW w (some ⟨g, f, none⟩) c M).cell? ⟨g, f + k * 5 + 4, none⟩ = some (.bool false) := p4
  obtain ⟨P, hP⟩ : ∃ P, P = GiveR M k sz al := ⟨_, rfl⟩
  have HG : Hid ((n.a + n.s < up n.fin al + sz ∨ n.l.length = 200 → P (.returned (.tuple #[.agg #[.int .i64 0, .int .i64 0, .int .i64 0], .int .i64 5]))) ∧ (¬ (n.a + n.s < up n.fin al + sz ∨ n.l.length = 200) → P (.returned (.tuple #[.agg #[.int .i64 (up n.fin al), .int .i64 sz, .int .i64 (-1)], .int .i64 0])))) := Lib.hid (by
    rw [hP]
    refine ⟨fun hc => ?_, fun hc => ?_⟩ <;> unfold GiveR gItem <;> rw [hgv]
    · rw [if_pos hc]; rfl
    · rw [if_neg hc]; rfl)
  rw [← hP]
  have HO := Lib.hid hO
  have HB := Lib.hid (gW_below w (some ⟨g, f, none⟩) c M)
  have hsz := gW_size w (some ⟨g, f, none⟩) c M
  have hre := gW_res w (some ⟨g, f, none⟩) c M
  have hbc := gW_box w (some ⟨g, f, none⟩) c M
  have HP := Lib.hid (fun w => power_ok w al)
  rw [b5] at HP
  clear h hf hgv hb b5 hP hO h0 hi hg hok hR
  generalize n.fin = F at *
  generalize up F al = U at *
  generalize n.l.length = L at *
  go_enter Try.func58, Try.ntmps58
  go_wp2_with (go_at_call 52; fail)
  have hgW : (w.alloc (.cells #[.slice (some ⟨g, f, none⟩) M.length c] 28)).alloc (.cells #[.int .i64 0, .int .i64 0, .int .i64 0] 54) = gW w (some ⟨g, f, none⟩) c M := rfl
  rw [hgW]
  generalize gW w (some ⟨g, f, none⟩) c M = W2 at *
  clear hgW
  refine HO.out.mono ?_
  rintro e w1 ⟨rfl, hb1⟩
  replace p0 := (hb1.cell (p := ⟨g, _, none⟩) hgl).trans p0
  replace p1 := (hb1.cell (p := ⟨g, _, none⟩) hgl).trans p1
  replace p2 := (hb1.cell (p := ⟨g, _, none⟩) hgl).trans p2
  replace p3 := (hb1.cell (p := ⟨g, _, none⟩) hgl).trans p3
  replace p4 := (hb1.cell (p := ⟨g, _, none⟩) hgl).trans p4
  replace hbc := (hb1.cell (p := ⟨w.heap.size, _, none⟩) (show w.heap.size < W2.heap.size by omega)).trans hbc
  replace hre := (hb1.block _ (show w.heap.size + 1 < W2.heap.size by omega)).trans hre
  obtain ⟨x0, x1, x2, z0, z1, z2⟩ := three_cells hre
  have hbs := hb1.size
  have HB1 := Lib.hid (And.intro hb1 hre)
  clear hb1 hre
  have HBox := Lib.hid (below_box w1 (.cells #[.int .i64 n.p, .int .i64 n.a, .int .i64 n.s, .slice B L cB, .bool false] 35))
  have hnew := heap_alloc_new w1 (.cells #[.int .i64 n.p, .int .i64 n.a, .int .i64 n.s, .slice B L cB, .bool false] 35)
  have hns : (w1.alloc (.cells #[.int .i64 n.p, .int .i64 n.a, .int .i64 n.s, .slice B L cB, .bool false] 35)).heap.size = w1.heap.size + 1 := by simp
  go_wp2_with (first | (go_at_call 69; refine (HP.out _).mono ?_; rintro e w2 ⟨rfl, rfl⟩) | (go_at_call 70; fail))
  generalize (w1.alloc (.cells #[.int .i64 n.p, .int .i64 n.a, .int .i64 n.s, .slice B L cB, .bool false] 35)) = W4 at *
  refine (HE.out W4 (HB1.out.1.trans (HBox.out.mono hbs))).mono ?_
  rintro e w3 ⟨rfl, hb3⟩
  replace hnew := (hb3.block _ (show w1.heap.size < W4.heap.size by omega)).trans hnew
  obtain ⟨n0, n1, n2, n3, n4⟩ := node_set (o := .cells #[] 0) hnew
  replace z0 := HB1.out.2
  replace z0 := (hb3.block _ (show w.heap.size + 1 < W4.heap.size by omega)).trans ((HBox.out.block _ (show w.heap.size + 1 < w1.heap.size by omega)).trans z0)
  have HZ := Lib.hid z0
  clear x0 x1 x2 z0 z1 z2
  obtain ⟨x0, x1, x2, z0, z1, z2⟩ := three_cells HZ.out
  have hb3s := hb3.size
  have HB3 := Lib.hid (HB.out.trans ((HB1.out.1.trans ((HBox.out.trans (hb3.mono (by omega))).mono hbs)).mono (by omega)))
  clear hb3 hnew p0 p1 p2 p3 p4 HB1 HBox HO HE HP HB hbc n4 n0
  go_wp2_with fail
  go_loop [11] (fun v => ∃ q : Int, v = .int .i64 q ∧ F ≤ q ∧ q ≤ U) (fun v => (U - intOf v).toNat)
  case atStart => exact ⟨F, rfl, Int.le_refl _, hu1⟩
  case round =>
    obtain ⟨q, rfl, hq1, hq2⟩ := hrel
    by_cases hr : q % al = 0
    · obtain rfl := HU.out q hq1 hq2 hr
      have e1 : (q % al != 0) = false := by rw [hr]; rfl
      clear hr
      have hcs : n.a + n.s < q + sz ∨ q + sz ≤ n.a + n.s ∧ L = 200 ∨ q + sz ≤ n.a + n.s ∧ L ≠ 200 := by omega
      rcases hcs with hcs | ⟨hcs, hct⟩ | ⟨hcs, hct⟩
      · have HC := Lib.hid hcs
        go_wp2
        have hr3 := three_set (x' := .int .i64 0) (y' := .int .i64 0) (z' := .int .i64 0) HZ.out
        obtain ⟨y0, y1, y2, _⟩ := three_cells hr3
        show bodyPost Try.prog Try.f58 (fun e w' => P e ∧ Below w.heap.size w w') _ _ _
        refine bodyPost_ret (v := .tuple #[.agg #[.int .i64 0, .int .i64 0, .int .i64 0], .int .i64 5]) (by simp [results, Try.results58, go_sem, y0, y1, y2]) rfl ⟨HG.out.1 (.inl HC.out), ?_⟩
        exact ((HB3.out.setCell (by show w.heap.size ≤ _; simp) _).setCell (by show w.heap.size ≤ _; simp) _).setCell (by show w.heap.size ≤ _; simp) _
      · have HC := Lib.hid hct
        have e2 : ((L : Int) == 200) = true := by rw [beq_iff_eq]; omega
        clear hct
        go_wp2
        have hr3 := three_set (x' := .int .i64 0) (y' := .int .i64 0) (z' := .int .i64 0) HZ.out
        obtain ⟨y0, y1, y2, _⟩ := three_cells hr3
        show bodyPost Try.prog Try.f58 (fun e w' => P e ∧ Below w.heap.size w w') _ _ _
        refine bodyPost_ret (v := .tuple #[.agg #[.int .i64 0, .int .i64 0, .int .i64 0], .int .i64 5]) (by simp [results, Try.results58, go_sem, y0, y1, y2]) rfl ⟨HG.out.1 (.inr HC.out), ?_⟩
        exact ((HB3.out.setCell (by show w.heap.size ≤ _; simp) _).setCell (by show w.heap.size ≤ _; simp) _).setCell (by show w.heap.size ≤ _; simp) _
      · have HC := Lib.hid (And.intro hcs hct)
        have e2 : ((L : Int) == 200) = false := by rw [beq_eq_false_iff_ne]; omega
        clear hct
        go_wp2
        have hr3 := three_set (x' := .int .i64 q) (y' := .int .i64 sz) (z' := .int .i64 (-1)) HZ.out
        obtain ⟨y0, y1, y2, _⟩ := three_cells hr3
        show bodyPost Try.prog Try.f58 (fun e w' => P e ∧ Below w.heap.size w w') _ _ _
        refine bodyPost_ret (v := .tuple #[.agg #[.int .i64 q, .int .i64 sz, .int .i64 (-1)], .int .i64 0]) (by simp [results, Try.results58, go_sem, y0, y1, y2]) rfl ⟨HG.out.2 (fun h => by rcases h with h | h; (have := HC.out.1; omega); exact HC.out.2 h), ?_⟩
        exact ((HB3.out.setCell (by show w.heap.size ≤ _; simp) _).setCell (by show w.heap.size ≤ _; simp) _).setCell (by show w.heap.size ≤ _; simp) _
    · have hq3 := HV.out q hq2 hr
      have e1 : (q % al != 0) = true := by simpa using hr
      clear hr
      go_wp2
      go_round
      case rel => exact ⟨q + 1, by go_num, by omega, hq3⟩
      case measure => simp [intOf]; omega

theorem giveR_ok (K : Nat → Prop) (w : World) (A : Option Addr) (c : Nat) (M : Tr) (i sz al : Int) (h : StK K w A c (save M)) (hg : Good M) :
    Calls Try.prog 58 #[.agg #[.slice A M.length c], .int .i64 i, .int .i64 sz, .int .i64 al] w fun e w' => GiveR M i sz al e ∧ Below w.heap.size w w' := by
  cases hf : find M i with
  | none => exact giveR_none K w A c M i sz al h hf
  | some n =>
    cases hb : badArg sz al with
    | true => exact giveR_bad K w A c M i sz al n h hf hb
    | false => exact giveR_some K w A c M i sz al n h hg hf hb
end Ne
end Go.Proofs.Ytllmddhahpegmaa
namespace Go.Proofs.Ytllmddhahpegmaa
open Go.RowKit
namespace Ne

def SZ.val (z : SZ) : Value := .slice z.A z.x.l.length z.c
def SZ.blk (z : SZ) : Option Nat := z.val.ownBlock

/-- A state whose blocks are its own: no two arenas have the same row. -/
structure Cop (K : Nat → Prop) (w : World) (g cap : Nat) (cur : Array Value) (zs : List SZ) : Prop where
  low : K g
  row : w.heap[g]? = some (.cells cur 35 (0, 0))
  size : cur.size = cap * 5
  len : zs.length ≤ cap
  most : cap ≤ maxLen
  cells : ∀ (i : Nat) (z : SZ), zs[i]? = some z → cur[i * 5]? = some (.int .i64 z.x.p) ∧ cur[i * 5 + 1]? = some (.int .i64 z.x.a) ∧ cur[i * 5 + 2]? = some (.int .i64 z.x.s) ∧ cur[i * 5 + 3]? = some z.val ∧ cur[i * 5 + 4]? = some (.bool z.x.cl)
  rows : ∀ (i : Nat) (z : SZ), zs[i]? = some z → w.ownsRow 0 54 3 z.val z.x.l.length (icells z.x.l)
  own : ∀ (i : Nat) (z : SZ) (b : Nat), zs[i]? = some z → z.blk = some b → K b
  apart : ∀ (i j : Nat) (a b : SZ), i ≠ j → zs[i]? = some a → zs[j]? = some b → ∀ k, a.blk = some k → b.blk ≠ some k

theorem Cop.keep {K K' : Nat → Prop} {w w' : World} {g cap : Nat} {cur : Array Value} {zs : List SZ} (h : Cop K w g cap cur zs) (hk : ∀ k, K k → k < w.heap.size → w'.heap[k]? = w.heap[k]? ∧ K' k) : Cop K' w' g cap cur zs := by
  have hg := hk g h.low (lt_of_heap h.row)
  refine ⟨hg.2, hg.1.trans h.row, h.size, h.len, h.most, h.cells, fun i z hz => ?_, fun i z b hz hb => ?_, h.apart⟩
  · exact row_same (h.rows i z hz) fun k hk' => (hk k (h.own i z k hz hk') ((h.rows i z hz).lt k hk').2).1
  · exact (hk b (h.own i z b hz hb) ((h.rows i z hz).lt b hb).2).2
theorem Cop.below {K : Nat → Prop} {w w' : World} {g cap : Nat} {cur : Array Value} {zs : List SZ} (h : Cop K w g cap cur zs) (hb : Below w.heap.size w w') : Cop K w' g cap cur zs :=
  h.keep fun k hk hl => ⟨hb.block k hl, hk⟩

theorem Cop.cell {K : Nat → Prop} {w : World} {g cap : Nat} {cur : Array Value} {zs : List SZ} (h : Cop K w g cap cur zs) {i : Nat} {z : SZ} (hz : zs[i]? = some z) :
    w.cell? ⟨g, i * 5, none⟩ = some (.int .i64 z.x.p) ∧ w.cell? ⟨g, i * 5 + 1, none⟩ = some (.int .i64 z.x.a) ∧ w.cell? ⟨g, i * 5 + 2, none⟩ = some (.int .i64 z.x.s) ∧ w.cell? ⟨g, i * 5 + 3, none⟩ = some (.slice z.A z.x.l.length z.c) ∧ w.cell? ⟨g, i * 5 + 4, none⟩ = some (.bool z.x.cl) ∧ ∀ o, w.frozen? ⟨g, o, none⟩ = false := by
  obtain ⟨k0, k1, k2, k3, k4⟩ := h.cells i z hz
  refine ⟨?_, ?_, ?_, ?_, ?_, fun o => by simp [World.frozen?, h.row]⟩ <;> rw [cell_of_row w g _ cur _ _ h.row]
  · exact k0
  · exact k1
  · exact k2
  · exact k3
  · exact k4

theorem RowK.of_row {K : Nat → Prop} {w : World} {A : Option Addr} {c : Nat} {l : List Item} (h : w.ownsRow 0 54 3 (.slice A l.length c) l.length (icells l)) (hK : ∀ b, (Value.slice A l.length c).ownBlock = some b → K b) : RowK K w A c l := by
  have hR := RowAt.of_owns h
  refine ⟨hR.1, hR.2.1, fun j x hx => ?_⟩
  obtain ⟨g, o, hA, hcur, r⟩ := hR.2.2 j x hx
  exact ⟨g, o, hA, hK g (by rw [hA]; rfl), hcur, r⟩

theorem Cop.stK {K : Nat → Prop} {w : World} {g cap : Nat} {cur : Array Value} {zs : List SZ} {s : List SN} (h : Cop K w g cap cur zs) (hs : zs.map (·.x) = s) : StK K w (some ⟨g, 0, none⟩) cap s := by
  subst hs
  refine ⟨by simpa using h.len, h.most, fun j x hx => ?_⟩
  rw [List.getElem?_map] at hx
  obtain ⟨z, hz⟩ : ∃ z, zs[j]? = some z := by
    cases e : zs[j]? with
    | none => rw [e] at hx; cases hx
    | some z => exact ⟨z, rfl⟩
  rw [hz] at hx
  injection hx with hx
  subst hx
  obtain ⟨c0, c1, c2, c3, c4, _⟩ := h.cell hz
  exact ⟨g, 0, z.A, z.c, rfl, h.low, ⟨cur, h.row⟩, by rw [Nat.zero_add]; exact c0, by rw [Nat.zero_add]; exact c1, by rw [Nat.zero_add]; exact c2, by rw [Nat.zero_add]; exact c3, by rw [Nat.zero_add]; exact c4,
    RowK.of_row (h.rows j z hz) fun b hb => h.own j z b hz hb⟩

/-- An append from a row that is nil, or lies in memory. -/
theorem append_src {P : Program} {w : World} {ops : Array Oper} {rest : List Oper} {o : Oper} {a : Act} {Q : Exit → Act → World → Prop} (hgd : o.guard = none) (s x : Operand) (t : TypeId)
    (ho : o.op = .call { callee := .builtin .append, args := #[s, x], argTypes := #[t, t] })
    (base : Nat) (e : TypeId) (i : TypeInfo) (z : Value) (size bytes : Nat) (ht : P.underlying t = some (.slice e)) (hi : P.info? e = some i) (hz : i.zero = some z)
    (hsize : i.size = size) (hby : i.bytes = bytes) (hzs : z.cells.size = size) (hsz : 0 < size)
    (v : Value) (n : Nat) (xs : List Value) (hs : a.eval s = v) (hown : w.ownsRow base e size v n xs)
    (B : Option Addr) (m c : Nat) (news : List Value) (hx : a.eval x = .slice B m c) (hsrc : w.ownsRow 0 e size (.slice B m c) m news) (hl : news.length = m * size) (h1 : ∀ u ∈ news, u.oneCell' = true)
    (h63 : n + m ≤ maxLen) (hbytes : (n + m) * bytes ≤ 140737488355328) (hbase : base ≤ w.heap.size)
    (h : ∀ v' w', w'.ownsRow base e size v' (n + m) (xs ++ news) → w.grownBy w' v.ownBlock → wpList P ops Q rest (a.put o.dst v') w') : wpList P ops Q (o :: rest) a w := by
  rcases hsrc.2 with ⟨h2, h3⟩ | ⟨g, cap, cur, h2, h3, h4⟩
  · injection h2 with h2 h5 h6
    subst h2 h3 h6
    have hn : news = [] := List.eq_nil_of_length_eq_zero (by rw [hl]; simp)
    subst hn
    refine wpList_append_own_none hgd s x t ho base e i size ht hi v n xs hs hown hx ?_
    refine h v w ?_ (World.grownBy.refl w _)
    simpa using hown
  · injection h2 with h2 h5 h6
    subst h2 h6
    refine wpList_append_own w hgd s x t ho base e i z size bytes ht hi hz hsize hby hzs hsz v n xs hs hown ⟨g, 0, none⟩ m c news hx hl (hsrc.cells rfl) h1 h63 hbytes hbase fun v' w' a b _ => h v' w' a b
end Ne
end Go.Proofs.Ytllmddhahpegmaa
