/- The sets: has, put, take. -/
import Derived.Test.YtdanhbbdkcbapaaProg
import Derived.Test.YtdanhbbdkcbapaaBPlain2
import Derived.Test.YtdanhbbdkcbapaaBBits2
namespace Go.Proofs.Ytdanhbbdkcbapaa
open Go.RowKit
namespace Bu

theorem has_int (S : Nat → Bool) (p : Nat) : (bits .and .u64 ((word S (p / 64) : Int) / 2 ^ (p % 64)) 1 == 1) = S p := by
  have h := has_word S p
  have e : ((word S (p / 64) / 2 ^ (p % 64) : Nat) : Int) = (word S (p / 64) : Int) / 2 ^ (p % 64) := by rw [Int.natCast_ediv, Int.natCast_pow]; rfl
  rw [e] at h
  show (bits .and .u64 ((word S (p / 64) : Int) / 2 ^ (p % 64)) ((1 : Nat) : Int) == 1) = S p
  rw [h]
  cases S p <;> rfl

set_option maxHeartbeats 400000 in
theorem has_ok (w : World) (b o p : Nat) (S : Nat → Bool) (h : SetAt w b o S) (hp : p < 1024) :
    Calls Try.prog 35 #[.pointer (some ⟨b, o, none⟩), .int .i64 p] w fun e w' => e = .returned (.bool (S p)) ∧ w = w' := by
  obtain ⟨hc, hf⟩ := h (p / 64) (by omega)
  have hb := has_word S p
  have HS := Lib.hid (And.intro h hb)
  clear h hb
  go_enter Try.func35, Try.ntmps35
  go_wp2
  go_ret
  exact ⟨by rw [← has_int S p]; rfl, rfl⟩

theorem pow_wrap (p : Nat) : IntKind.u64.wrap ((2 : Int) ^ (p % 64)) = ((2 ^ (p % 64) : Nat) : Int) := by
  have e : (2 : Int) ^ (p % 64) = ((2 ^ (p % 64) : Nat) : Int) := by rw [Int.natCast_pow]; rfl
  rw [e, u64_wrap _ (pow_lt_u64 (Nat.mod_lt _ (by decide)))]
theorem put_int (S : Nat → Bool) (p : Nat) : bits .or .u64 (word S (p / 64) : Int) (IntKind.u64.wrap (2 ^ (p % 64))) = (word (sadd S p) (p / 64) : Int) := by
  rw [pow_wrap, put_word]
theorem take_int (S : Nat → Bool) (p : Nat) : bits .andNot .u64 (word S (p / 64) : Int) (IntKind.u64.wrap (2 ^ (p % 64))) = (word (sdel S p) (p / 64) : Int) := by
  rw [pow_wrap, take_word]

/-- The world where a set has turned. -/
def setW (w : World) (b o p : Nat) (S : Nat → Bool) : World := (w.setCell ⟨b, o + p / 64, none⟩ (.int .u64 (word S (p / 64)))).drew

set_option maxHeartbeats 1000000 in
theorem put_ok (w : World) (b o p : Nat) (S : Nat → Bool) (h : SetAt w b o S) (hp : p < 1024) :
    Calls Try.prog 37 #[.pointer (some ⟨b, o, none⟩), .int .i64 p] w fun e w' => e = .returned (.tuple #[]) ∧ w' = setW w b o p (sadd S p) := by
  obtain ⟨hc, hf⟩ := h (p / 64) (by omega)
  clear h
  go_enter Try.func37, Try.ntmps37
  go_wp2
  go_region
  go_end0
  exact ⟨rfl, by rw [put_int]; rfl⟩

set_option maxHeartbeats 1000000 in
theorem take_ok (w : World) (b o p : Nat) (S : Nat → Bool) (h : SetAt w b o S) (hp : p < 1024) :
    Calls Try.prog 36 #[.pointer (some ⟨b, o, none⟩), .int .i64 p] w fun e w' => e = .returned (.tuple #[]) ∧ w' = setW w b o p (sdel S p) := by
  obtain ⟨hc, hf⟩ := h (p / 64) (by omega)
  clear h
  go_enter Try.func36, Try.ntmps36
  go_wp2
  go_region
  go_end0
  exact ⟨rfl, by rw [take_int]; rfl⟩

/-- An allocator of this program. -/
abbrev Bu (w : World) (b N : Nat) (Fr Gv : Nat → Nat → Bool) : Prop := BuAt 58 w b N Fr Gv
theorem Bu.putF {w : World} {b N : Nat} {Fr Gv : Nat → Nat → Bool} (h : Bu w b N Fr Gv) {k p : Nat} (hk : k < 11) (hp : p < 1024) : Bu (setW w b (2 + k * 16) p (sadd (Fr k) p)) b N (upd Fr k (sadd (Fr k) p)) Gv :=
  (h.setF hk (by omega) fun x hx => sadd_far _ _ _ hx).drew
theorem Bu.takeF {w : World} {b N : Nat} {Fr Gv : Nat → Nat → Bool} (h : Bu w b N Fr Gv) {k p : Nat} (hk : k < 11) (hp : p < 1024) : Bu (setW w b (2 + k * 16) p (sdel (Fr k) p)) b N (upd Fr k (sdel (Fr k) p)) Gv :=
  (h.setF hk (by omega) fun x hx => sdel_far _ _ _ hx).drew
theorem Bu.putG {w : World} {b N : Nat} {Fr Gv : Nat → Nat → Bool} (h : Bu w b N Fr Gv) {k p : Nat} (hk : k < 11) (hp : p < 1024) : Bu (setW w b (178 + k * 16) p (sadd (Gv k) p)) b N Fr (upd Gv k (sadd (Gv k) p)) :=
  (h.setG hk (by omega) fun x hx => sadd_far _ _ _ hx).drew
theorem Bu.takeG {w : World} {b N : Nat} {Fr Gv : Nat → Nat → Bool} (h : Bu w b N Fr Gv) {k p : Nat} (hk : k < 11) (hp : p < 1024) : Bu (setW w b (178 + k * 16) p (sdel (Gv k) p)) b N Fr (upd Gv k (sdel (Gv k) p)) :=
  (h.setG hk (by omega) fun x hx => sdel_far _ _ _ hx).drew
theorem setW_far (w : World) (b o p : Nat) (S : Nat → Bool) (k : Nat) (h : k ≠ b) : (setW w b o p S).heap[k]? = w.heap[k]? := setCell_far _ _ _ _ h
theorem setW_grow (w : World) (b o p : Nat) (S : Nat → Bool) : Grow1 b w (setW w b o p S) := ((Grow1.refl b w).setCell _ _).drew
theorem setW_size (w : World) (b o p : Nat) (S : Nat → Bool) : (setW w b o p S).heap.size = w.heap.size := setCell_size _ _ _
end Bu
end Go.Proofs.Ytdanhbbdkcbapaa
