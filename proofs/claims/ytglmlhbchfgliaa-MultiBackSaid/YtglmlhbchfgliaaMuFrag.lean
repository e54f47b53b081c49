/-
  What the head of a fragment tells; the fragments of a datagram, one by one: plainly. No conditions.
-/
import Derived.Test.YtglmlhbchfgliaaMuAw
namespace Go.Proofs.Ytglmlhbchfgliaa
open Go.RowKit Go.Maps
/-- the four kinds of flags -/
def flagN (f e : Bool) : Nat := (if f then 128 else 0) + (if e then 64 else 0)
theorem flag_short : ∀ f e : Bool, ∀ q, q < 16 → flagN f e ||| q < 256 ∧ (flagN f e ||| q) &&& 48 = 0 ∧ (flagN f e ||| q) &&& 15 = q ∧ ((flagN f e ||| q) &&& 128 != 0) = f ∧ ((flagN f e ||| q) &&& 64 != 0) = e := by decide
theorem flag_long : ∀ f e : Bool, flagN f e < 256 ∧ flagN f e &&& 63 = 0 ∧ flagN f e &&& 15 = 0 ∧ (flagN f e &&& 128 != 0) = f ∧ (flagN f e &&& 64 != 0) = e := by decide
theorem flag_end (f : Bool) : flagN f false ||| 64 = flagN f true := by cases f <;> decide
/-- what is put into a head is told by it -/
theorem headP_headB {n : Nat} {f e short : Bool} (hn : n < rgN short) (body : List UInt8) : headP (headB n (flagN f e) short ++ body) short = ⟨n, f, e, body, 0⟩ := by
  unfold headP headB
  cases short
  · have hn : n < 16777216 := hn
    obtain ⟨a1, a2, a3, a4, a5⟩ := flag_long f e
    have c1 : n / 65536 < 256 := by omega
    have t0 : (UInt8.ofNat (flagN f e)).toNat = flagN f e := by simp [UInt8.toNat_ofNat']; omega
    simp only [Bool.false_eq_true, if_false, hdSize, hdMask, List.cons_append, List.nil_append, List.length_cons, List.getD_cons_zero, t0, a2]
    rw [if_neg (by omega), if_neg (by simp)]
    simp only [a4, a5, List.drop_succ_cons, List.drop_zero]
    have h1 : hdNum (UInt8.ofNat (flagN f e) :: UInt8.ofNat (n / 65536) :: UInt8.ofNat (n / 256) :: UInt8.ofNat n :: body) (4 - 1) = n := by
      show ((((UInt8.ofNat (flagN f e)).toNat &&& 15) * 256 + (UInt8.ofNat (n / 65536)).toNat) * 256 + (UInt8.ofNat (n / 256)).toNat) * 256 + (UInt8.ofNat n).toNat = n
      rw [t0, a3]
      simp only [UInt8.toNat_ofNat']
      omega
    rw [h1]
  · have hn : n < 4096 := hn
    obtain ⟨a1, a2, a3, a4, a5⟩ := flag_short f e (n / 256) (by omega)
    have t0 : (UInt8.ofNat (flagN f e ||| n / 256)).toNat = flagN f e ||| n / 256 := by rw [UInt8.toNat_ofNat', Nat.mod_eq_of_lt a1]
    simp only [if_true, hdSize, hdMask, List.cons_append, List.nil_append, List.length_cons, List.getD_cons_zero, t0, a2]
    rw [if_neg (by omega), if_neg (by simp)]
    simp only [a4, a5, List.drop_succ_cons, List.drop_zero]
    have h1 : hdNum (UInt8.ofNat (flagN f e ||| n / 256) :: UInt8.ofNat n :: body) (2 - 1) = n := by
      show ((UInt8.ofNat (flagN f e ||| n / 256)).toNat &&& 15) * 256 + (UInt8.ofNat n).toNat = n
      rw [t0, a3]
      simp only [UInt8.toNat_ofNat']
      omega
    rw [h1]
theorem cutF_nil {R size : Nat} {short : Bool} {f flags n : Nat} : cutF R size short f flags n [] = ([], n) := by cases f <;> rfl
/-- one fragment, and the others -/
theorem cutF_one {R size : Nat} {short f1 : Bool} {f n : Nat} {l : List UInt8} (h : 0 < l.length) :
    cutF R size short (f + 1) (flagN f1 false) n l = ((headB n (flagN f1 (decide (l.length ≤ size))) short ++ l.take size) :: (cutF R size short f (flagN false false) ((n + 1) % R) (l.drop size)).1, (cutF R size short f (flagN false false) ((n + 1) % R) (l.drop size)).2) := by
  rw [cutF_step h]
  by_cases hs : l.length ≤ size
  · rw [Nat.min_eq_right hs, if_pos rfl, flag_end, decide_eq_true hs, List.take_of_length_le (Nat.le_refl _), List.take_of_length_le hs, List.drop_of_length_le (Nat.le_refl _), List.drop_of_length_le hs]
    rfl
  · rw [Nat.min_eq_left (by omega), if_neg (by omega), decide_eq_false hs]
    rfl
/-- how many fragments there are -/
theorem cutF_len {R size : Nat} {short : Bool} (hs : 0 < size) : ∀ {f : Nat} {f1 : Bool} {n : Nat} {l : List UInt8}, l.length ≤ f → (cutF R size short f (flagN f1 false) n l).1.length = (l.length + (size - 1)) / size
  | 0, f1, n, l, h => by
    obtain rfl : l = [] := List.eq_nil_of_length_eq_zero (by omega)
    rw [cutF_nil]
    simp [Nat.div_eq_of_lt (show size - 1 < size by omega)]
  | f + 1, f1, n, l, h => by
    by_cases h0 : l.length = 0
    · obtain rfl : l = [] := List.eq_nil_of_length_eq_zero h0
      rw [cutF_nil]
      simp [Nat.div_eq_of_lt (show size - 1 < size by omega)]
    · rw [cutF_one (by omega), List.length_cons, cutF_len hs (by rw [List.length_drop]; omega), List.length_drop]
      by_cases hle : l.length ≤ size
      · rw [show l.length - size + (size - 1) = size - 1 by omega, Nat.div_eq_of_lt (by omega), show l.length + (size - 1) = (l.length - 1) + size by omega, Nat.add_div_right _ hs, Nat.div_eq_of_lt (by omega)]
      · rw [show l.length + (size - 1) = (l.length - size + (size - 1)) + size by omega, Nat.add_div_right _ hs]
/-- the number behind -/
theorem cutF_num {R size : Nat} {short : Bool} (hs : 0 < size) : ∀ {f : Nat} {f1 : Bool} {n : Nat} {l : List UInt8}, l.length ≤ f → n < R → (cutF R size short f (flagN f1 false) n l).2 = (n + (cutF R size short f (flagN f1 false) n l).1.length) % R
  | 0, f1, n, l, h, hn => by
    obtain rfl : l = [] := List.eq_nil_of_length_eq_zero (by omega)
    rw [cutF_nil]; simp [Nat.mod_eq_of_lt hn]
  | f + 1, f1, n, l, h, hn => by
    by_cases h0 : l.length = 0
    · obtain rfl : l = [] := List.eq_nil_of_length_eq_zero h0
      rw [cutF_nil]; simp [Nat.mod_eq_of_lt hn]
    · rw [cutF_one (by omega)]
      simp only [List.length_cons]
      rw [cutF_num hs (by rw [List.length_drop]; omega) (Nat.mod_lt _ (by omega)), Nat.mod_add_mod]
      congr 1
      omega
/-- a fragment is not longer than its piece and its head -/
theorem cutF_most {R size : Nat} {short : Bool} : ∀ {f : Nat} {f1 : Bool} {n : Nat} {l : List UInt8}, ∀ x ∈ (cutF R size short f (flagN f1 false) n l).1, x.length ≤ l.length + 4
  | 0, f1, n, l, x, hx => by cases hx
  | f + 1, f1, n, l, x, hx => by
    by_cases h0 : l.length = 0
    · obtain rfl : l = [] := List.eq_nil_of_length_eq_zero h0
      rw [cutF_nil] at hx; cases hx
    · rw [cutF_one (by omega)] at hx
      rcases List.mem_cons.1 hx with e | e
      · rw [e, List.length_append, headB_len, List.length_take]
        split <;> omega
      · have := cutF_most x e
        rw [List.length_drop] at this
        omega
end Go.Proofs.Ytglmlhbchfgliaa
