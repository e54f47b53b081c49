/-
  Two objects beside one another; numbers read out of bits that were put. No conditions.
-/
import Derived.Test.YtdfoimgckahjpaaBitsKnown
import Derived.Test.YtdfoimgckahjpaaBitsRef5
namespace Go.Proofs.Ytdfoimgckahjpaa
open Go.RowKit
/-- two rows that do not lie in one block -/
def Apart (x y : Value) : Prop := ∀ k, x.ownBlock = some k → y.ownBlock ≠ some k
theorem Apart.symm {x y : Value} (h : Apart x y) : Apart y x := fun k hy hx => h k hx hy
theorem Apart.next {w : World} {x y y' : Value} (h : Apart x y) (hx : ∀ k, x.ownBlock = some k → k < w.heap.size) (hn : Next w y y') : Apart x y' := fun k hk hy => by
  rcases hn k hy with e | e
  · exact h k hk e
  · have := hx k hk; omega
theorem Apart.nil (y : Value) : Apart (.slice none 0 0) y := fun k hk => by simp [Value.ownBlock] at hk
section
variable {w w' : World} {S S2 b b2 : Nat} {v v2 : Value} {high high2 : Bool} {fs fs2 : List Bool} {at_ : Nat}
theorem Wr.vsize (h : Wr w S b v high fs) : ∀ k, v.ownBlock = some k → k < w.heap.size := fun k hk => (h.own.lt k hk).2
theorem Rf.vsize (h : Rf w S b v high fs at_) : ∀ k, v.ownBlock = some k → k < w.heap.size := fun k hk => (h.own.lt k hk).2
theorem Wr.other (h2 : Wr w S2 b2 v2 high2 fs2) (h1 : Wr w S b v high fs) (hB : ButOf (Foot b v) w w') (hne : b2 ≠ b) (hv : Apart v2 v) : Wr w' S2 b2 v2 high2 fs2 :=
  h2.but hB (fun hk => by
    rcases hk with e | e
    · exact hne e
    · exact own_blk_ne h1.own h2.blk (by decide) e) (fun k hk hf => by
    rcases hf with e | e
    · exact own_blk_ne h2.own h1.blk (by decide) (by rw [hk, e])
    · exact hv k hk e)
/-- a writer beside the reference's bits -/
theorem Wr.beside (h2 : Wr w S2 b2 v2 high2 fs2) (h1 : Rf w S b v high fs at_) (hB : ButOf (Foot b v) w w') (hv : Apart v2 v) : Wr w' S2 b2 v2 high2 fs2 :=
  h2.but hB (fun hk => by
    rcases hk with e | e
    · exact blk_ne h2.blk h1.blk (by decide) e
    · exact own_blk_ne h1.own h2.blk (by decide) e) (fun k hk hf => by
    rcases hf with e | e
    · exact own_blk_ne h2.own h1.blk (by decide) (by rw [hk, e])
    · exact hv k hk e)
theorem Rf.beside (h2 : Rf w S2 b2 v2 high2 fs2 at_) (h1 : Wr w S b v high fs) (hB : ButOf (Foot b v) w w') (hv : Apart v2 v) : Rf w' S2 b2 v2 high2 fs2 at_ :=
  h2.but hB (fun hk => by
    rcases hk with e | e
    · exact blk_ne h2.blk h1.blk (by decide) e
    · exact own_blk_ne h1.own h2.blk (by decide) e) (fun k hk hf => by
    rcases hf with e | e
    · exact own_blk_ne h2.own h1.blk (by decide) (by rw [hk, e])
    · exact hv k hk e)
end
theorem getD_app (A B : List Bool) (i : Nat) : (A ++ B).getD i false = if i < A.length then A.getD i false else B.getD (i - A.length) false := by
  simp only [List.getD_eq_getElem?_getD]
  split
  · rename_i h; rw [List.getElem?_append_left h]
  · rename_i h; rw [List.getElem?_append_right (by omega)]
theorem numBits_getD (high : Bool) (x n m i : Nat) : (numBits high x n m).getD i false = (decide (i < m) && x.testBit (plc high i n)) := by
  by_cases h : i < m
  · simp [numBits, List.getD_eq_getElem?_getD, h]
  · rw [getD_of_ge (by rw [numBits_length]; omega)]; simp [h]
/-- a number that was put is read -/
theorem num_numBits (high : Bool) (x n : Nat) (hx : x < 2 ^ n) : num high (fun j => (numBits high x n n).getD j false) n n = x := by
  apply Nat.eq_of_testBit_eq
  intro j
  rw [num_testBit high _ n n (Nat.le_refl _), numBits_getD]
  by_cases hj : j < n
  · have := plc_lt (high := high) hj
    simp [hj, this, plc_plc]
  · simp [hj]
    exact (Nat.testBit_lt_two_pow (Nat.lt_of_lt_of_le hx (Nat.pow_le_pow_right (by decide) (show n ≤ j by omega))))
theorem num_read (high : Bool) (A C : List Bool) (y k : Nat) (hy : y < 2 ^ k) :
    num high (fun j => bitAt high (packB high (A ++ numBits high y k k ++ C)) (A.length + j)) k k = y := by
  refine (num_congr ?_).trans (num_numBits high y k hy)
  intro j hj
  rw [bitAt_packB, List.append_assoc, getD_app, if_neg (by omega), show A.length + j - A.length = j by omega, getD_app, if_pos (by rw [numBits_length]; exact hj)]
end Go.Proofs.Ytdfoimgckahjpaa
