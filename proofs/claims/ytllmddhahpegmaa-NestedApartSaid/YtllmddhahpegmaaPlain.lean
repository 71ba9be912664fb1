/- The plain model of a tree of nested arenas: what a tree holds, and what the calls make of it. No program here. -/
namespace Go.Proofs.Ytllmddhahpegmaa
namespace Ne

/-- An item: its address, its size, and what it is (-1: bytes, -2: a hole, else the number of an arena). -/
structure Item where
  a : Int
  s : Int
  c : Int

/-- An open arena. -/
structure Node where
  p : Int
  a : Int
  s : Int
  l : List Item

/-- A tree: the open arenas by their numbers. -/
abbrev Tr := List (Option Node)

def Node.fin (n : Node) : Int := match n.l.getLast? with
  | none => n.a
  | some x => x.a + x.s

def find (t : Tr) (i : Int) : Option Node := if i < 0 then none else (t[i.toNat]?).join

def badArg (sz al : Int) : Bool := decide (sz < 1) || decide (sz > 65536) || !([1, 2, 4, 8, 16, 32, 64, 128, 256, 512, 1024, 2048, 4096].contains al)

def up (x al : Int) : Int := (x + al - 1) / al * al

/-- The address, and the error, of a piece that is asked for. -/
def give (t : Tr) (i sz al : Int) : Int × Int := match find t i with
  | none => (0, 4)
  | some n => if badArg sz al then (0, 2) else if n.a + n.s < up n.fin al + sz ∨ n.l.length = 200 then (0, 5) else (up n.fin al, 0)

def addItem (t : Tr) (i : Nat) (x : Item) : Tr := match t[i]? with
  | some (some n) => t.set i (some { n with l := n.l ++ [x] })
  | _ => t

def alloc (t : Tr) (i sz al : Int) : Tr × Int × Int := if (give t i sz al).2 = 0 then (addItem t i.toNat ⟨(give t i sz al).1, sz, -1⟩, (give t i sz al).1, 0) else (t, 0, (give t i sz al).2)

def hole (t : Tr) : Nat := t.findIdx (·.isNone)

def room (t : Tr) (k : Nat) : Tr := if k < t.length then t else t ++ [none]

def begin_ (t : Tr) (i sz al : Int) : Tr × Int × Int :=
  if (give t i sz al).2 = 0 then
    if hole t = 64 then (t, 0, 5)
    else ((addItem (room t (hole t)) i.toNat ⟨(give t i sz al).1, sz, hole t⟩).set (hole t) (some ⟨i, (give t i sz al).1, sz, []⟩), hole t, 0)
  else (t, 0, (give t i sz al).2)

def mark (t : Tr) (i : Int) : Int × Int := match find t i with
  | none => (0, 4)
  | some n => (n.l.length, 0)

def roomOf (t : Tr) (i : Int) : Int × Int := match find t i with
  | none => (0, 4)
  | some n => (n.a + n.s - n.fin, 0)

/-- The items of an arena (none: no such one). -/
def itemsOf (t : Tr) (i : Nat) : List Item := match t[i]? with
  | some (some n) => n.l
  | _ => []

def live (t : Tr) : Nat → List Item → Int
  | 0, _ => 0
  | f + 1, l => (l.map fun x => if 0 ≤ x.c then live t f (itemsOf t x.c.toNat) else if x.c = -1 then x.s else 0).sum

/-- The arenas among items, and all inside of them, are closed. -/
def shut : Nat → Tr → List Item → Tr
  | 0, t, _ => t
  | f + 1, t, l => l.foldl (fun t x => if 0 ≤ x.c then (shut f t (itemsOf t x.c.toNat)).set x.c.toNat none else t) t

/-- The closing of the first arenas among items. -/
def shutStep (f : Nat) (t : Tr) (x : Item) : Tr := if 0 ≤ x.c then (shut f t (itemsOf t x.c.toNat)).set x.c.toNat none else t

/-- The closing does not fail. -/
def ShutOk : Nat → Tr → List Item → Prop
  | 0, _, _ => False
  | f + 1, t, l => ∀ j x, l[j]? = some x → 0 ≤ x.c → ∃ n, ((l.take j).foldl (shutStep f) t)[x.c.toNat]? = some (some n) ∧ n.l.length ≤ 200 ∧ ShutOk f ((l.take j).foldl (shutStep f) t) n.l

/-- The arenas inside of items are there, and not deeper than so. -/
def Deep (t : Tr) : Nat → List Item → Prop
  | 0, _ => False
  | f + 1, l => ∀ x ∈ l, 0 ≤ x.c → ∃ n, t[x.c.toNat]? = some (some n) ∧ Deep t f n.l

def trim (t : Tr) : Tr := (t.reverse.dropWhile (·.isNone)).reverse

def tidy (l : List Item) : List Item := (l.reverse.dropWhile (fun x => x.c == -2)).reverse

/-- Items lie one behind the other, between two bytes. -/
def Seq : Int → Int → List Item → Prop
  | _, _, [] => True
  | lo, hi, x :: l => lo ≤ x.a ∧ 1 ≤ x.s ∧ x.a + x.s ≤ hi ∧ Seq (x.a + x.s) hi l

/-- An arena is as it should be. -/
structure NodeOk (t : Tr) (i : Nat) (n : Node) : Prop where
  s1 : 1 ≤ n.s
  a0 : 0 ≤ n.a
  top : n.a + n.s ≤ 65536
  len : n.l.length ≤ 200
  seq : Seq n.a (n.a + n.s) n.l
  last : ∀ x, n.l.getLast? = some x → x.c ≠ -2
  low : ∀ x ∈ n.l, -2 ≤ x.c
  kid : ∀ x ∈ n.l, 0 ≤ x.c → ∃ k, t[x.c.toNat]? = some (some k) ∧ k.p = i ∧ k.a = x.a ∧ k.s = x.s
  uniq : n.l.Pairwise (fun x y => 0 ≤ x.c → x.c ≠ y.c)
  root : i = 0 → n.p = -1
  par : i ≠ 0 → 0 ≤ n.p ∧ ∃ q, t[n.p.toNat]? = some (some q) ∧ ∃ x ∈ q.l, x.c = i

/-- A tree is as it should be. -/
structure Good (t : Tr) : Prop where
  len : t.length ≤ 64
  root : ∃ r, t[0]? = some (some r) ∧ r.a = 0
  last : t.getLast? ≠ some none
  node : ∀ i n, t[i]? = some (some n) → NodeOk t i n
  rank : ∃ (d : Nat → Nat) (D : Nat), (∀ i, d i ≤ D) ∧ ∀ i n, t[i]? = some (some n) → ∀ x ∈ n.l, 0 ≤ x.c → d x.c.toNat = d i + 1

theorem Seq.mem {lo hi : Int} {l : List Item} (h : Seq lo hi l) : ∀ x ∈ l, lo ≤ x.a ∧ 1 ≤ x.s ∧ x.a + x.s ≤ hi := by
  induction l generalizing lo with
  | nil => intro x hx; cases hx
  | cons y l ih =>
    obtain ⟨h1, h2, h3, h4⟩ := h
    intro x hx
    cases hx with
    | head => exact ⟨h1, h2, h3⟩
    | tail _ hx => have := ih h4 x hx; exact ⟨by omega, this.2⟩

theorem NodeOk.fin {t : Tr} {i : Nat} {n : Node} (h : NodeOk t i n) : n.a ≤ n.fin ∧ n.fin ≤ n.a + n.s := by
  have := h.s1
  unfold Node.fin
  cases e : n.l.getLast? with
  | none => exact ⟨Int.le_refl _, by show n.a ≤ _; omega⟩
  | some x =>
    have := h.seq.mem x (List.mem_of_getLast? e)
    exact ⟨by show n.a ≤ x.a + x.s; omega, this.2.2⟩

theorem Good.pos {t : Tr} (h : Good t) : 0 < t.length := by
  obtain ⟨r, hr, _⟩ := h.root
  exact (List.getElem?_eq_some_iff.1 hr).1

theorem up_ge (x al : Int) (h : 1 ≤ al) : x ≤ up x al := by
  unfold up
  have h1 := Int.emod_lt_of_pos (x + al - 1) (show 0 < al by omega)
  have h2 := Int.mul_ediv_add_emod (x + al - 1) al
  rw [Int.mul_comm] at h2
  omega
theorem up_le (x al : Int) (h : 1 ≤ al) : up x al ≤ x + al - 1 := by
  unfold up
  have h1 := Int.emod_nonneg (x + al - 1) (show al ≠ 0 by omega)
  have h2 := Int.mul_ediv_add_emod (x + al - 1) al
  rw [Int.mul_comm] at h2
  omega

theorem badArg_no {sz al : Int} (h : badArg sz al = false) : 1 ≤ sz ∧ sz ≤ 65536 ∧ 1 ≤ al ∧ al ≤ 4096 ∧ ([1, 2, 4, 8, 16, 32, 64, 128, 256, 512, 1024, 2048, 4096] : List Int).contains al = true := by
  unfold badArg at h
  simp only [Bool.or_eq_false_iff, decide_eq_false_iff_not, Bool.not_eq_false'] at h
  obtain ⟨⟨h1, h2⟩, h3⟩ := h
  refine ⟨by omega, by omega, ?_, ?_, h3⟩ <;> (simp at h3; omega)

end Ne
end Go.Proofs.Ytllmddhahpegmaa
