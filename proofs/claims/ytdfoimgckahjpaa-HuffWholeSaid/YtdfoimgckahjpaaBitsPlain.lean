/-
  Bits of bytes as plain functions, and what is true of them. No program is in sight. No conditions.
-/
import Derived.Test.YtdfoimgckahjpaaSameB
import Derived.Laws.BitsAllLaws
namespace Go.Proofs.Ytdfoimgckahjpaa
/-- where the k-th of n bits stands -/
def plc (high : Bool) (k n : Nat) : Nat := if high then n - 1 - k else k
/-- the i-th bit of bytes -/
def bitAt (high : Bool) (l : List UInt8) (i : Nat) : Bool := (l.getD (i / 8) 0).toNat.testBit (plc high (i % 8) 8)
/-- the number of the first m of bits that a number of a size has -/
def num (high : Bool) (f : Nat → Bool) (size : Nat) : Nat → Nat
  | 0 => 0
  | m + 1 => num high f size m ||| ((f m).toNat <<< plc high m size)

theorem plc_lt {high : Bool} {k n : Nat} (h : k < n) : plc high k n < n := by unfold plc; split <;> omega
theorem plc_plc {high : Bool} {k n : Nat} (h : k < n) : plc high (plc high k n) n = k := by unfold plc; cases high <;> simp <;> omega
theorem bit_shl (b : Bool) (p j : Nat) : (b.toNat <<< p).testBit j = (b && decide (j = p)) := by
  rw [Nat.testBit_shiftLeft]
  cases b
  · simp
  · simp only [Bool.toNat_true, Bool.true_and, ge_iff_le]
    by_cases h : j = p
    · subst h; simp
    · simp only [h, decide_false, Bool.and_eq_false_imp, decide_eq_true_eq]
      intro hp
      rw [← Bool.not_eq_true, Nat.testBit_one_eq_true_iff_self_eq_zero]
      omega
theorem num_testBit (high : Bool) (f : Nat → Bool) (size : Nat) : ∀ (m : Nat), m ≤ size → ∀ j,
    (num high f size m).testBit j = (decide (j < size) && decide (plc high j size < m) && f (plc high j size))
  | 0, _, j => by simp [num]
  | m + 1, hm, j => by
    rw [num, Nat.testBit_or, num_testBit high f size m (by omega) j, bit_shl]
    by_cases hj : j < size
    · have hp : (j = plc high m size) ↔ (plc high j size = m) := by
        constructor
        · intro h; rw [h]; exact plc_plc (by omega)
        · intro h; rw [← h]; exact (plc_plc hj).symm
      by_cases he : plc high j size = m
      · have := hp.2 he
        simp [this]
        rw [plc_plc (by omega)]
        have := plc_lt (high := high) (show m < size by omega)
        simp [this]
      · have h2 : ¬ j = plc high m size := fun h => he (hp.1 h)
        have h3 : decide (plc high j size < m + 1) = decide (plc high j size < m) := by
          apply decide_eq_decide.2; omega
        simp [hj, h2, h3]
    · have : ¬ j = plc high m size := by have := plc_lt (high := high) (show m < size by omega); omega
      simp [hj, this]
theorem num_lt (high : Bool) (f : Nat → Bool) (size m : Nat) (hm : m ≤ size) : num high f size m < 2 ^ size := by
  apply Nat.lt_pow_two_of_testBit
  intro i hi
  rw [num_testBit high f size m hm]
  simp; omega
theorem num_congr {high : Bool} {f g : Nat → Bool} {size : Nat} : ∀ {m : Nat}, (∀ k, k < m → f k = g k) → num high f size m = num high g size m
  | 0, _ => rfl
  | m + 1, h => by rw [num, num, num_congr (fun k hk => h k (by omega)), h m (by omega)]
/-- the bit as the program takes it -/
theorem bit_and (x p : Nat) : (x >>> p) &&& 1 = (x.testBit p).toNat := by
  rw [Nat.and_one_is_mod, Nat.shiftRight_eq_div_pow, Nat.toNat_testBit]
theorem i64_and_nat (a b : Nat) (ha : a < 9223372036854775808) (hb : b < 9223372036854775808) : bits .and .i64 (a : Int) (b : Int) = ((a &&& b : Nat) : Int) := by
  have hx : a &&& b < 2 ^ 63 := Nat.and_lt_two_pow _ (by omega)
  show IntKind.i64.wrap ((BitVec.ofInt 64 (a : Int) &&& BitVec.ofInt 64 (b : Int)).toNat : Int) = _
  rw [BitVec.toNat_and, ofInt_u64 a (by omega), ofInt_u64 b (by omega), IntKind.wrap_i64]
  omega
theorem i64_or_nat (a b : Nat) (ha : a < 9223372036854775808) (hb : b < 9223372036854775808) : bits .or .i64 (a : Int) (b : Int) = ((a ||| b : Nat) : Int) := by
  have hx : a ||| b < 2 ^ 63 := Nat.or_lt_two_pow (by omega) (by omega)
  show IntKind.i64.wrap ((BitVec.ofInt 64 (a : Int) ||| BitVec.ofInt 64 (b : Int)).toNat : Int) = _
  rw [BitVec.toNat_or, ofInt_u64 a (by omega), ofInt_u64 b (by omega), IntKind.wrap_i64]
  omega
/-- a number shifted down, its lowest bit -/
theorem i64_bit (x p : Nat) (hx : x < 9223372036854775808) : bits .and .i64 ((x : Int) / 2 ^ p) 1 = (((x >>> p) &&& 1 : Nat) : Int) := by
  have h1 : (x : Int) / 2 ^ p = ((x >>> p : Nat) : Int) := by
    rw [Nat.shiftRight_eq_div_pow]; simp
  have h2 : x >>> p ≤ x := by rw [Nat.shiftRight_eq_div_pow]; exact Nat.div_le_self _ _
  rw [h1]
  exact i64_and_nat _ 1 (by omega) (by decide)
open RowKit in
theorem wrap64_in (n : Int) (h : -9223372036854775808 ≤ n ∧ n ≤ 9223372036854775807) : wrap64 n = n := by unfold wrap64; omega
theorem shl_lt (B p s : Nat) (hB : B ≤ 1) (hp : p < s) : B <<< p < 2 ^ s := by
  rw [Nat.shiftLeft_eq]
  calc B * 2 ^ p ≤ 1 * 2 ^ p := Nat.mul_le_mul_right _ hB
    _ = 2 ^ p := Nat.one_mul _
    _ < 2 ^ s := Nat.pow_lt_pow_right (by decide) hp
theorem pow_le32 {s : Nat} (h : s ≤ 32) : 2 ^ s ≤ 4294967296 := by
  calc 2 ^ s ≤ 2 ^ 32 := Nat.pow_le_pow_right (by decide) h
    _ = 4294967296 := by decide
open RowKit in
theorem or_shl (x B p s : Nat) (hB : B ≤ 1) (hp : p < s) (hs : s ≤ 32) (hx : x < 2 ^ s) : bits .or .i64 (x : Int) (wrap64 ((B : Int) * 2 ^ p)) = ((x ||| (B <<< p) : Nat) : Int) := by
  have h1 := shl_lt B p s hB hp
  have h2 := pow_le32 hs
  have h3 : (B : Int) * 2 ^ p = ((B <<< p : Nat) : Int) := by rw [Nat.shiftLeft_eq]; simp
  rw [h3]
  clear h3
  generalize B <<< p = y at *
  generalize 2 ^ s = z at *
  rw [wrap64_in _ (by omega)]
  exact i64_or_nat _ _ (by omega) (by omega)
end Go.Proofs.Ytdfoimgckahjpaa
