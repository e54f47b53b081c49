/-
  The walks of the reference's bits: left, a number, taken, looked at, an end of a byte, whole bytes. Conditions: they are bits that were made.
-/
import Derived.Test.YtdfoimgckahjpaaBitsAt
import Derived.Test.YtdfoimgckahjpaaBitsPk
import Derived.Test.YtdfoimgckahjpaaFrame
namespace Go.Proofs.Ytdfoimgckahjpaa
open Go.RowKit
/-- a bit as a byte -/
def bb (b : Bool) : UInt8 := if b then 1 else 0
/-- the reference's bits: their block, their row, the place in them -/
structure Rf (w : World) (S b : Nat) (v : Value) (high : Bool) (fs : List Bool) (at_ : Nat) : Prop where
  blk : Blk w b #[v, .int .i64 (at_ : Int), .bool high] 52
  own : w.ownsRow S 5 1 v fs.length ((fs.map bb).map bv)
  few : fs.length ≤ 1099511627776
  le : at_ ≤ fs.length
section
variable {w w' : World} {S b : Nat} {v : Value} {high : Bool} {fs : List Bool} {at_ : Nat}
theorem Rf.lt (h : Rf w S b v high fs at_) : b < w.heap.size := h.blk.lt
theorem Rf.but {K : Nat → Prop} (h : Rf w S b v high fs at_) (hb : ButOf K w w') (h1 : ¬ K b) (h2 : ∀ k, v.ownBlock = some k → ¬ K k) : Rf w' S b v high fs at_ :=
  ⟨h.blk.but hb h1, own_but h.own hb h2, h.few, h.le⟩
theorem Rf.below (h : Rf w S b v high fs at_) (hb : Below w.heap.size w w') : Rf w' S b v high fs at_ :=
  ⟨h.blk.below hb h.lt, own_below h.own hb, h.few, h.le⟩
theorem Rf.shape (h : Rf w S b v high fs at_) : ∃ a c, v = .slice a fs.length c ∧ Bts w a fs.length c (fs.map bb) := by
  have ho := own_congr (n' := fs.length) h.own (by rfl) rfl
  obtain ⟨a, c, e, hB⟩ := Bts.of_own ho (by have := h.few; omega)
  exact ⟨a, c, e, hB⟩
theorem Rf.ne (h : Rf w S b v high fs at_) : v.ownBlock ≠ some b := own_blk_ne h.own h.blk (by decide)
theorem Rf.set (h : Rf w S b v high fs at_) (m : Nat) (hm : m ≤ fs.length) : Rf (w.setCell ⟨b, 1, none⟩ (.int .i64 (m : Int))) S b v high fs m :=
  ⟨h.blk.set 1 _, own_but h.own ((ButOf.refl (· = b) w).set _ (.inl rfl)) (fun k hk e => h.ne (by rw [hk, e])), h.few, hm⟩
theorem rleft_any (h : Rf w S b v high fs at_) :
    Calls Try.prog 41 #[.pointer (some ⟨b, 0, none⟩)] w fun e w' => e = .returned (.int .i64 ((fs.length - at_ : Nat) : Int)) ∧ ∃ m, w' = w.drewN m := by
  obtain ⟨a, c, rfl, hB⟩ := h.shape
  have g0 := h.blk.cell 0
  have g1 := h.blk.cell 1
  have hl := h.le
  have hf := h.few
  simp at g0 g1
  go_enter Try.func41, Try.ntmps41
  go_wp2_with fail
  go_quiet (fail)
  go_wp2
  go_ret
  exact ⟨ret_int (by omega), nq, rfl⟩
theorem ralign_any (h : Rf w S b v high fs at_) (h8 : fs.length % 8 = 0) :
    Calls Try.prog 38 #[.pointer (some ⟨b, 0, none⟩)] w fun e w' => e = .returned (.tuple #[]) ∧ Rf w' S b v high fs ((at_ + 7) / 8 * 8) ∧ w.grownBy w' (some b) := by
  have g1 := h.blk.cell 1
  have hl := h.le
  have hf := h.few
  simp at g1
  have f1 := h.blk.free 1 none
  have hset := h.set ((at_ + 7) / 8 * 8) (by omega)
  have gset := grown_set (w := w) (b := b) (o := 1) (v := .int .i64 (((at_ + 7) / 8 * 8 : Nat) : Int))
  clear h8
  go_enter Try.func38, Try.ntmps38
  go_wp2_with fail
  go_end0
  exact ⟨rfl, hset, gset⟩
end
/-- the number as the reference makes it -/
def refNum (high : Bool) (f : Nat → Bool) : Nat → Nat
  | 0 => 0
  | m + 1 => if high then refNum high f m <<< 1 ||| (f m).toNat else refNum high f m ||| ((f m).toNat <<< m)
theorem refNum_low (f : Nat → Bool) (size : Nat) : ∀ m, refNum false f m = num false f size m
  | 0 => rfl
  | m + 1 => by simp [refNum, num, refNum_low f size m, plc]
theorem refNum_high (f : Nat → Bool) : ∀ m j, (refNum true f m).testBit j = (decide (j < m) && f (m - 1 - j))
  | 0, j => by simp [refNum]
  | m + 1, j => by
    have hb : ∀ b : Bool, b.toNat.testBit j = (b && decide (j = 0)) := by
      intro b; have := bit_shl b 0 j; simpa using this
    rw [refNum, if_pos rfl, Nat.testBit_or, Nat.testBit_shiftLeft, refNum_high f m, hb]
    by_cases hj : j = 0
    · subst hj; simp
    · have e1 : decide (j ≥ 1) = true := by simp; omega
      have e2 : decide (j - 1 < m) = decide (j < m + 1) := decide_eq_decide.2 (by omega)
      rw [e1, e2, show m - 1 - (j - 1) = m + 1 - 1 - j by omega]
      simp [hj]
theorem refNum_eq (high : Bool) (f : Nat → Bool) (n : Nat) : refNum high f n = num high f n n := by
  cases high with
  | false => exact refNum_low f n n
  | true =>
    apply Nat.eq_of_testBit_eq
    intro j
    rw [refNum_high, num_testBit true f n n (Nat.le_refl _)]
    by_cases hj : j < n
    · simp [hj, plc]; omega
    · simp [hj]
theorem refNum_lt (high : Bool) (f : Nat → Bool) (n : Nat) : refNum high f n < 2 ^ n := by rw [refNum_eq]; exact num_lt _ _ _ _ (Nat.le_refl _)
theorem bb_getD (fs : List Bool) (i : Nat) : ((fs.map bb).getD i 0).toNat = (fs.getD i false).toNat := by
  simp only [List.getD_eq_getElem?_getD, List.getElem?_map]
  cases fs[i]? with
  | none => rfl
  | some b => cases b <;> rfl
end Go.Proofs.Ytdfoimgckahjpaa
