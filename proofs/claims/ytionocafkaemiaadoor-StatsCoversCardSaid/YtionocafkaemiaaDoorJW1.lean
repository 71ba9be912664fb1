/- Names: a letter, a digit. Names: words.Name. Reports, plain. -/
import Derived.Test.YtionocafkaemiaaDoorJR1
import Derived.Deep.CutBlock
import Derived.Outline
import Derived.Test.YtionocafkaemiaaDoorK2
import Derived.Test.YtionocafkaemiaaDoorK1
import Derived.Test.YtionocafkaemiaaDoorJR2
import Derived.Lib.ItoaNum
namespace Go.Proofs.YtionocafkaemiaaDoor
open Go.RowKit Go.Lib
namespace Sx
attribute [local irreducible] wpQuiet
theorem digit_ok (c : Nat) (hc : c < 256) (W : World) : Calls Tryd.prog 87 #[.int .u8 (c : Int)] W fun e w' => e = .returned (.bool (decide (48 ≤ c) && decide (c ≤ 57))) ∧ w' = W := by
  by_cases h : 48 ≤ c
  · have h' : (c : Int) ≥ 48 := by omega
    have h2 : decide ((48 : Int) ≤ (c : Int)) = true := decide_eq_true h'
    have h3 : decide ((c : Int) ≤ 57) = decide (c ≤ 57) := by by_cases h4 : c ≤ 57 <;> simp [h4] <;> omega
    rw [decide_eq_true h, Bool.true_and]
    go_enter Tryd.func87, Tryd.ntmps87
    go_wp2_with (fail)
    go_ret
    exact ⟨rfl, rfl⟩
  · have h2 : decide ((48 : Int) ≤ (c : Int)) = false := decide_eq_false (by omega)
    rw [decide_eq_false h, Bool.false_and]
    go_enter Tryd.func87, Tryd.ntmps87
    go_wp2_with (fail)
    go_ret
    exact ⟨rfl, rfl⟩
set_option maxRecDepth 100000 in
theorem or32 (c : Nat) (hc : c < 256) : bits BinOp.or IntKind.u8 (c : Int) 32 = ((c ||| 32 : Nat) : Int) := by
  have h : ∀ c : Fin 256, bits BinOp.or IntKind.u8 ((c.val : Nat) : Int) 32 = ((c.val ||| 32 : Nat) : Int) := by decide
  exact h ⟨c, hc⟩
theorem letter_ok (c : Nat) (hc : c < 256) (W : World) : Calls Tryd.prog 86 #[.int .u8 (c : Int)] W fun e w' => e = .returned (.bool (decide (97 ≤ c ||| 32) && decide (c ||| 32 ≤ 122))) ∧ w' = W := by
  have ho := or32 c hc
  obtain ⟨d, hd⟩ : ∃ d, d = c ||| 32 := ⟨_, rfl⟩
  rw [← hd] at ho ⊢
  clear hd
  have h3 : decide ((d : Int) ≤ 122) = decide (d ≤ 122) := by by_cases h4 : d ≤ 122 <;> simp [h4] <;> omega
  by_cases h : 97 ≤ d
  · have h2 : decide ((97 : Int) ≤ (d : Int)) = true := decide_eq_true (by omega)
    rw [decide_eq_true h, Bool.true_and]
    go_enter Tryd.func86, Tryd.ntmps86
    go_wp2_with (fail)
    go_ret
    exact ⟨rfl, rfl⟩
  · have h2 : decide ((97 : Int) ≤ (d : Int)) = false := decide_eq_false (by omega)
    rw [decide_eq_false h, Bool.false_and]
    go_enter Tryd.func86, Tryd.ntmps86
    go_wp2_with (fail)
    go_ret
    exact ⟨rfl, rfl⟩
end Sx
end Go.Proofs.YtionocafkaemiaaDoor
namespace Go.Proofs.YtionocafkaemiaaDoor
open Go.RowKit Go.Lib
namespace Sx
attribute [local irreducible] wpQuiet
def ltrB (c : Nat) : Bool := decide (97 ≤ c ||| 32) && decide (c ||| 32 ≤ 122)
def digB (c : Nat) : Bool := decide (48 ≤ c) && decide (c ≤ 57)
def okAt (s : ByteArray) (i : Nat) : Bool := ltrB (s.get! i).toNat || (decide (i ≠ 0) && (decide ((s.get! i).toNat = 95) || digB (s.get! i).toNat))
def nameS (s : ByteArray) : Bool := decide (∀ i < s.size, okAt s i = true) && decide (1 ≤ s.size) && decide (s.size ≤ 16)
set_option maxRecDepth 100000 in
set_option maxHeartbeats 4000000 in
theorem name_ok (s : ByteArray) (hs : s.size < 1099511627776) (W : World) : Calls Tryd.prog 67 #[.string s] W fun e w' => e = .returned (.bool (nameS s)) ∧ w' = W := by
  go_enter Tryd.func67, Tryd.ntmps67
  go_wp2_with (fail)
  go_loopw [7] (fun i wr => ∃ k : Nat, k ≤ s.size ∧ i = .int .i64 (k : Int) ∧ wr = W ∧ ∀ j < k, okAt s j = true) (fun i _ => s.size - (RowKit.intOf i).toNat)
  case atStart => exact ⟨0, Nat.zero_le _, rfl, rfl, fun j hj => absurd hj (Nat.not_lt_zero _)⟩
  case round =>
    obtain ⟨k, hk, rfl, rfl, hA⟩ := hrel
    by_cases hlt : k < s.size
    · have hlti : (k : Int) < (s.size : Int) := by omega
      go_upto_region 5 with (fail)
      obtain ⟨c, hc⟩ : ∃ c, c = s[k].toNat := ⟨_, rfl⟩
      have hg : (s.get! k).toNat = c := by rw [hc]; exact congrArg UInt8.toNat (getElem!_pos s.data k hlt)
      have hc8 : c < 256 := by rw [hc]; exact s[k].toNat_lt
      have HO := Lib.hid (show okAt s k = (ltrB c || (decide (k ≠ 0) && (decide (c = 95) || digB c))) by unfold okAt; rw [hg])
      rw [← hc]
      clear hc hg
      have HA := Lib.hid hA
      have HN : nameS s = nameS s := rfl
      have hbad : okAt s k = false → nameS s = false := fun h => by
        unfold nameS
        rw [decide_eq_false (fun h' => by have := h' k hlt; rw [h] at this; cases this)]; rfl
      have hgood : okAt s k = true → ∀ j < k + 1, okAt s j = true := fun h j hj => by
        rcases Nat.lt_or_ge j k with h1 | h1
        · exact hA j h1
        · rw [show j = k by omega]; exact h
      have HB := Lib.hid (And.intro hbad hgood)
      clear hA hbad hgood HN
      have HL := Lib.hid (fun V => letter_ok c hc8 V)
      have HD := Lib.hid (fun V => digit_ok c hc8 V)
      have hz : decide ((k : Int) = 0) = decide (k = 0) := by by_cases h4 : k = 0 <;> simp [h4]
      have hz2 : ((k : Int) == 0) = decide (k = 0) := by by_cases h4 : k = 0 <;> simp [h4]
      have hz3 : ((c : Int) == 95) = decide (c = 95) := by by_cases h4 : c = 95 <;> simp [h4]; omega
      have hz4 : ((c : Int) != 95) = !decide (c = 95) := by by_cases h4 : c = 95 <;> simp [h4]; omega
      have hLr : (decide (97 ≤ c ||| 32) && decide (c ||| 32 ≤ 122)) = ltrB c := rfl
      have hDr : (decide (48 ≤ c) && decide (c ≤ 57)) = digB c := rfl
      rw [hLr] at HL
      rw [hDr] at HD
      clear hLr hDr
      obtain ⟨bl, hbl⟩ : ∃ b, b = ltrB c := ⟨_, rfl⟩
      obtain ⟨bd, hbd⟩ : ∃ b, b = digB c := ⟨_, rfl⟩
      obtain ⟨bu, hbu⟩ : ∃ b, b = decide (c = 95) := ⟨_, rfl⟩
      obtain ⟨bz, hbz⟩ : ∃ b, b = decide (k = 0) := ⟨_, rfl⟩
      have hbz' : decide (k ≠ 0) = !bz := by rw [hbz]; by_cases h4 : k = 0 <;> simp [h4]
      rw [hbz', ← hbl, ← hbd, ← hbu] at HO
      rw [← hbl] at HL
      rw [← hbd] at HD
      rw [← hbz] at hz hz2
      rw [← hbu] at hz3 hz4
      clear hbl hbd hbu hbz hbz'
      cases bl <;> cases bz <;> cases bu <;> cases bd
      all_goals
        go_wp2_with (first | (go_at_call 86; refine (HL.out _).mono ?_; rintro e w1 ⟨rfl, hw⟩; have hw := hw.symm; subst hw) | (go_at_call 87; refine (HD.out _).mono ?_; rintro e w1 ⟨rfl, hw⟩; have hw := hw.symm; subst hw))
        first
        | (go_ret; exact ⟨by rw [HB.out.1 (by rw [HO.out]; rfl)]; rfl, rfl⟩)
        | (go_roundw
           case rel => exact ⟨k + 1, by omega, by go_num, by first | trivial | rfl, HB.out.2 (by rw [HO.out]; rfl)⟩
           case measure => simp [RowKit.intOf]; omega)
    · obtain rfl : k = s.size := by omega
      have hn : nameS s = (decide (1 ≤ s.size) && decide (s.size ≤ 16)) := by unfold nameS; rw [decide_eq_true hA, Bool.true_and]
      have e1 : decide ((1 : Int) ≤ (s.size : Int)) = decide (1 ≤ s.size) := by by_cases h4 : 1 ≤ s.size <;> simp [h4] <;> omega
      have e2 : decide ((s.size : Int) ≤ 16) = decide (s.size ≤ 16) := by by_cases h4 : s.size ≤ 16 <;> simp [h4] <;> omega
      have HN := Lib.hid hn
      clear hn hA
      obtain ⟨b2, h2⟩ : ∃ b2, b2 = decide (s.size ≤ 16) := ⟨_, rfl⟩
      obtain ⟨b1, h1⟩ : ∃ b1, b1 = decide (1 ≤ s.size) := ⟨_, rfl⟩
      rw [← h2] at e2 HN
      rw [← h1] at e1 HN
      clear h1 h2
      cases b1
      · go_wp2_with (fail)
        go_ret
        exact ⟨by rw [HN.out]; rfl, rfl⟩
      · go_wp2_with (fail)
        go_ret
        exact ⟨by rw [HN.out]; rfl, rfl⟩
end Sx
end Go.Proofs.YtionocafkaemiaaDoor
namespace Go.Proofs.YtionocafkaemiaaDoor
open Go.RowKit Go.Lib
namespace Sx
/-- A series with its place. -/
structure Ser where
  A : Option Addr
  c : Nat
  L : List Sm
instance : Inhabited Ser := ⟨⟨none, 0, []⟩⟩
abbrev ser (l : List Ser) (i : Nat) : Ser := l.getD i default
theorem ser_get {l : List Ser} {i : Nat} (h : i < l.length) : l[i]? = some (ser l i) := by
  unfold ser; rw [List.getD_eq_getElem?_getD, List.getElem?_eq_getElem h]; rfl
abbrev nm (l : List ByteArray) (i : Nat) : ByteArray := l.getD i .empty
theorem nm_get {l : List ByteArray} {i : Nat} (h : i < l.length) : l[i]? = some (nm l i) := by
  unfold nm; rw [List.getD_eq_getElem?_getD, List.getElem?_eq_getElem h]; rfl
/-- The mean of an interval. -/
def meanS (L : List Sm) (f t : Int) : Int := (areaV (stepsV L f t)).val / (t - f)
/-- The numbers of a line. -/
def nums (L : List Sm) (f t : Int) : List Int := [(valS L (t - 1)).1, (extS gt L f t).1.v, (extS lt L f t).1.v, meanS L f t]
def numsB (l : List Int) : List UInt8 := l.flatMap fun v => 32 :: itoa v
/-- A line of a report. -/
def lineS (n : ByteArray) (L : List Sm) (f t : Int) : List UInt8 := n.data.toList ++ numsB (nums L f t) ++ [10]
/-- The first k lines. -/
def linesK (ns : List ByteArray) (l : List Ser) (f t : Int) : Nat → List UInt8
  | 0 => []
  | k + 1 => linesK ns l f t k ++ lineS (nm ns k) (ser l k).L f t
/-- The first error. -/
def firstE (l : List Ser) (f t : Int) : Int := ((l.map fun x => askS x.L f t).find? (· ≠ 0)).getD 0
theorem firstE_at {l : List Ser} {f t : Int} {k : Nat} (hk : k < l.length) (h : ∀ j < k, askS (ser l j).L f t = 0) (he : askS (ser l k).L f t ≠ 0) : firstE l f t = askS (ser l k).L f t := by
  unfold firstE
  have : (l.map fun x => askS x.L f t).find? (· ≠ 0) = some (askS (ser l k).L f t) := by
    rw [List.find?_eq_some_iff_getElem]
    refine ⟨by simpa using he, k, by simpa using hk, ?_, ?_⟩
    · rw [List.getElem_map]
      have := ser_get hk
      rw [List.getElem?_eq_getElem hk] at this
      injection this with this
      rw [this]
    · intro j hj
      rw [List.getElem_map]
      have hjl : j < l.length := by omega
      have := ser_get hjl
      rw [List.getElem?_eq_getElem hjl] at this
      injection this with this
      rw [this]
      simpa using h j hj
  rw [this]; rfl
theorem firstE_none {l : List Ser} {f t : Int} (h : ∀ j < l.length, askS (ser l j).L f t = 0) : firstE l f t = 0 := by
  unfold firstE
  have : (l.map fun x => askS x.L f t).find? (· ≠ 0) = none := by
    rw [List.find?_eq_none]
    intro x hx
    obtain ⟨y, hy, rfl⟩ := List.mem_map.1 hx
    obtain ⟨j, hj, rfl⟩ := List.getElem_of_mem hy
    have := ser_get hj
    rw [List.getElem?_eq_getElem hj] at this
    injection this with this
    rw [this]
    simpa using h j hj
  rw [this]; rfl
def chkR (ns : List ByteArray) (l : List Ser) (f t : Int) : Int :=
  if 20 < l.length then 3 else if ns.length ≠ l.length then 2 else if (ns.all nameS) = false then 6 else firstE l f t
def repS (ns : List ByteArray) (l : List Ser) (f t : Int) : List UInt8 × Int := if chkR ns l f t ≠ 0 then ([], chkR ns l f t) else (linesK ns l f t l.length, 0)
theorem dec_len (u : Nat) : ∀ k, u < 10 ^ (k + 1) → (decDigits u).length ≤ k + 1 := by
  intro k
  induction k generalizing u with
  | zero => intro h; rw [decDigits, dif_pos (by simpa using h)]; simp
  | succ k ih =>
    intro h
    rw [decDigits]
    split
    · simp
    · have := ih (u / 10) (by rw [Nat.pow_succ] at h; omega)
      simp; omega
theorem itoa_nat (u : Nat) : itoa (u : Int) = decDigits u := by unfold itoa; rw [if_neg (by omega)]; simp
theorem itoa_len {v : Int} (h0 : 0 ≤ v) (h1 : v ≤ 1000000000000) : (itoa v).length ≤ 13 := by
  obtain ⟨u, rfl⟩ := Int.eq_ofNat_of_zero_le h0
  rw [itoa_nat]
  exact dec_len u 12 (by omega)
/-- The area of an interval is at most 10^12 times its length. -/
theorem mean_bd {L : List Sm} {f t : Int} (h : Cov L f t) (hs : OkS L) : 0 ≤ (areaV (stepsV L f t)).val ∧ (areaV (stepsV L f t)).val ≤ 1000000000000 * (t - f) := by
  rw [area_val]
  have hk := steps_ok hs (f := f) (t := t)
  constructor
  · have := wS_le (g := fun _ => 0) (h := fun v => v) (M := stepsV L f t) (fun x hx => ⟨by have := (hk x hx).ft; omega, (hk x hx).v0⟩)
    have h0 : wS (fun _ => 0) (stepsV L f t) = 0 := by
      have := wS_mul 0 (fun _ => 1) (stepsV L f t)
      simpa using this
    omega
  · have := wS_le (g := fun v => v) (h := fun _ => 1000000000000) (M := stepsV L f t) (fun x hx => ⟨by have := (hk x hx).ft; omega, (hk x hx).v1⟩)
    have h1 := wS_mul 1000000000000 (fun _ => 1) (stepsV L f t)
    rw [steps_len1 h] at h1
    simp only [Int.mul_one] at h1
    omega
theorem ext_bd {b : Int → Int → Bool} {L : List Sm} {f t : Int} (h : Cov L f t) : 0 ≤ (extS b L f t).1.v ∧ (extS b L f t).1.v ≤ 1000000000000 := by
  unfold extS
  rw [if_neg (by rw [ask_cov.2 h]; simp)]
  have := steps_ok h.ok _ (ext_mem (b := b) (steps_pos h))
  exact ⟨this.v0, this.v1⟩
theorem val_bd (L : List Sm) (t : Int) (hL : OkS L) : 0 ≤ (valS L t).1 ∧ (valS L t).1 ≤ 1000000000000 := by
  unfold valS
  split
  · simp
  · split
    · simp
    · split
      · simp
      · next h =>
        unfold idx at h
        have hu := upto_le L t
        have hm := sm_mem (L := L) (i := upto L t - 1) (by omega)
        exact ⟨(hL.ok _ hm).v0, (hL.ok _ hm).v1⟩
theorem div_bd {a n : Int} (h0 : 0 ≤ a) (h1 : a ≤ 1000000000000 * n) (hn : 0 < n) : 0 ≤ a / n ∧ a / n ≤ 1000000000000 :=
  ⟨Int.ediv_nonneg h0 (Int.le_of_lt hn), Int.ediv_le_of_le_mul hn h1⟩
theorem nums_bd {L : List Sm} {f t : Int} (h : Cov L f t) : ∀ v, v ∈ nums L f t → 0 ≤ v ∧ v ≤ 1000000000000 := by
  intro v hv
  unfold nums at hv
  simp only [List.mem_cons, List.not_mem_nil, or_false] at hv
  rcases hv with rfl | rfl | rfl | rfl
  · exact val_bd L _ h.ok
  · exact ext_bd h
  · exact ext_bd h
  · have := mean_bd h h.ok
    exact div_bd this.1 this.2 (by have := h.ft; omega)
theorem numsB_len : ∀ {l : List Int}, (∀ v, v ∈ l → 0 ≤ v ∧ v ≤ 1000000000000) → (numsB l).length ≤ 14 * l.length
  | [], _ => by simp [numsB]
  | v :: l, h => by
    have h1 := itoa_len (h v (List.mem_cons_self ..)).1 (h v (List.mem_cons_self ..)).2
    have h2 := numsB_len (l := l) (fun x hx => h x (List.mem_cons_of_mem _ hx))
    unfold numsB at h2 ⊢
    rw [List.flatMap_cons, List.length_append, List.length_cons]
    simp only [List.length_cons] at h2 ⊢
    omega
theorem numsB_next {l : List Int} {m : Nat} {v : Int} (h : l[m]? = some v) : numsB (l.take (m + 1)) = numsB (l.take m) ++ (32 :: itoa v) := by
  unfold numsB
  rw [List.take_add_one, h, List.flatMap_append]; simp
theorem linesK_len {ns : List ByteArray} {l : List Ser} {f t : Int} : ∀ k, (∀ j < k, (nm ns j).size ≤ 16 ∧ Cov (ser l j).L f t) → (linesK ns l f t k).length ≤ 80 * k
  | 0, _ => by simp [linesK]
  | k + 1, h => by
    have h1 := linesK_len (ns := ns) (l := l) (f := f) (t := t) k (fun j hj => h j (by omega))
    have h2 := h k (by omega)
    have h3 := numsB_len (nums_bd h2.2)
    have h4 : (nums (ser l k).L f t).length = 4 := rfl
    have h5 : (nm ns k).data.toList.length = (nm ns k).size := rfl
    unfold linesK lineS
    simp only [List.length_append, List.length_cons, List.length_nil]
    omega
end Sx
end Go.Proofs.YtionocafkaemiaaDoor
