/-
  PLAIN THEORY OF THE NUMBER OF A TEXT (Fowler, Noll, Vo), no program in sight: the step, its undoing, the exclusive or bit by bit. It proves no statement by itself. CONDITIONS: none.
-/
import Derived.Test.YtemhdfodghfkfaaGreatDoorKit
import Derived.Laws.BitsLemmas
import Derived.Lib.Join
import Derived.Lib.ItoaNum
namespace Go.Proofs.YtemhdfodghfkfaaGreatDoor

/-- One byte more. -/
def hstep (n : Nat) (c : UInt8) : Nat := (n ^^^ c.toNat) * 16777619 % 4294967296
/-- The number of a text. -/
def hashL (l : List UInt8) : Nat := l.foldl hstep 2166136261
theorem hstep_lt (n : Nat) (c : UInt8) : hstep n c < 4294967296 := Nat.mod_lt _ (by decide)
theorem hash_lt_aux : ∀ (l : List UInt8) (n : Nat), n < 4294967296 → l.foldl hstep n < 4294967296
  | [], _, h => h
  | c :: l, n, _ => hash_lt_aux l (hstep n c) (hstep_lt n c)
theorem hash_lt (l : List UInt8) : hashL l < 4294967296 := hash_lt_aux l 2166136261 (by omega)
theorem hash_snoc (l : List UInt8) (c : UInt8) : hashL (l ++ [c]) = hstep (hashL l) c := by unfold hashL; rw [List.foldl_append, List.foldl_cons, List.foldl_nil]
theorem xor_lt32 {a b : Nat} (ha : a < 4294967296) (hb : b < 256) : a ^^^ b < 4294967296 :=
  Nat.xor_lt_two_pow (n := 32) ha (by omega)

/-- With a byte the exclusive or is of the low byte alone. -/
theorem xor_low (n c : Nat) (hc : c < 256) : n ^^^ c = n - n % 256 + ((n % 256) ^^^ c) := by
  have h1 : (n ^^^ c) % 2 ^ 8 = (n % 2 ^ 8) ^^^ (c % 2 ^ 8) := Nat.xor_mod_two_pow
  have h2 : (n ^^^ c) / 2 ^ 8 = (n / 2 ^ 8) ^^^ (c / 2 ^ 8) := Nat.xor_div_two_pow
  have h3 : c / 2 ^ 8 = 0 := Nat.div_eq_of_lt hc
  have h4 : c % 2 ^ 8 = c := Nat.mod_eq_of_lt hc
  rw [h3, Nat.xor_zero] at h2
  rw [h4] at h1
  have h5 := Nat.div_add_mod (n ^^^ c) (2 ^ 8)
  rw [h1, h2] at h5
  have h6 := Nat.div_add_mod n 256
  rw [show (2 : Nat) ^ 8 = 256 from rfl] at h5
  omega

/-- Bit k of two numbers' exclusive or. -/
theorem xor_bit (a b k : Nat) : (a ^^^ b) / 2 ^ k % 2 = if a / 2 ^ k % 2 = b / 2 ^ k % 2 then 0 else 1 := by
  have h2 : (a ^^^ b) / 2 ^ k = (a / 2 ^ k) ^^^ (b / 2 ^ k) := Nat.xor_div_two_pow
  rw [h2]
  have h1 : ((a / 2 ^ k) ^^^ (b / 2 ^ k)) % 2 ^ 1 = ((a / 2 ^ k) % 2 ^ 1) ^^^ ((b / 2 ^ k) % 2 ^ 1) := Nat.xor_mod_two_pow
  rw [show (2 : Nat) ^ 1 = 2 from rfl] at h1
  rw [h1]
  rcases Nat.mod_two_eq_zero_or_one (a / 2 ^ k) with ha | ha <;> rcases Nat.mod_two_eq_zero_or_one (b / 2 ^ k) with hb | hb <;> rw [ha, hb] <;> decide
/-- What the reference has gathered behind k bits. -/
theorem xor_gather (a b k : Nat) : (a ^^^ b) % 2 ^ (k + 1) = (a ^^^ b) % 2 ^ k + (if a / 2 ^ k % 2 = b / 2 ^ k % 2 then 0 else 2 ^ k) := by
  rw [Nat.pow_succ, Nat.mod_mul, xor_bit]
  split <;> simp
theorem xor_gathered {a b : Nat} (ha : a < 256) (hb : b < 256) : (a ^^^ b) % 2 ^ 8 = a ^^^ b :=
  Nat.mod_eq_of_lt (Nat.xor_lt_two_pow (n := 8) ha hb)

/-- The step can be undone: unlike bytes, unlike numbers. -/
theorem hstep_inj {n : Nat} (hn : n < 4294967296) {c d : UInt8} (h : hstep n c = hstep n d) : c = d := by
  unfold hstep at h
  have hc := c.toNat_lt
  have hd := d.toNat_lt
  have key : ∀ x : Nat, x < 4294967296 → (x * 16777619 % 4294967296) * 899433627 % 4294967296 = x := by
    intro x hx
    rw [Nat.mod_mul_mod, Nat.mul_assoc, show 16777619 * 899433627 = 4294967296 * 3513497 + 1 from rfl, Nat.mul_add, Nat.mul_one, Nat.mul_left_comm, Nat.mul_add_mod]
    exact Nat.mod_eq_of_lt hx
  have h1 := key _ (xor_lt32 (b := c.toNat) hn (by omega))
  have h2 := key _ (xor_lt32 (b := d.toNat) hn (by omega))
  rw [h, h2] at h1
  have h3 : n ^^^ (n ^^^ d.toNat) = n ^^^ (n ^^^ c.toNat) := by rw [h1]
  rw [← Nat.xor_assoc, ← Nat.xor_assoc, Nat.xor_self, Nat.zero_xor, Nat.zero_xor] at h3
  exact UInt8.toNat_inj.1 h3.symm

/-- The model's exclusive or of two numbers that are not negative. -/
theorem bits_xor_i64_nat (a b : Nat) (ha : a < 4294967296) (hb : b < 256) : bits .xor .i64 (a : Int) (b : Int) = ((a ^^^ b : Nat) : Int) := by
  have hx : a ^^^ b < 2 ^ 32 := Nat.xor_lt_two_pow (n := 32) ha (by omega)
  have h1 : (BitVec.ofInt 64 (a : Int)).toNat = a := by
    rw [BitVec.ofInt_natCast, BitVec.toNat_ofNat]; exact Nat.mod_eq_of_lt (by omega)
  have h2 : (BitVec.ofInt 64 (b : Int)).toNat = b := by
    rw [BitVec.ofInt_natCast, BitVec.toNat_ofNat]; exact Nat.mod_eq_of_lt (by omega)
  show IntKind.i64.wrap ((BitVec.ofInt 64 (a : Int) ^^^ BitVec.ofInt 64 (b : Int)).toNat : Int) = _
  rw [BitVec.toNat_xor, h1, h2, IntKind.wrap_i64]
  omega

/-! ### The texts -/
def bytesOf (s : ByteArray) : List UInt8 := s.data.toList
/-- The text of an entry of which the number is. -/
def oneT (k v : Int) (g : Bool) (t : ByteArray) : List UInt8 :=
  Go.Lib.join [Go.Lib.itoa k, Go.Lib.itoa v, Go.Lib.itoa (if g then 1 else 0)] [47] ++ 47 :: bytesOf t
def pairT (a b : Int) : List UInt8 := Go.Lib.join [Go.Lib.itoa a, Go.Lib.itoa b] [47]
end Go.Proofs.YtemhdfodghfkfaaGreatDoor
