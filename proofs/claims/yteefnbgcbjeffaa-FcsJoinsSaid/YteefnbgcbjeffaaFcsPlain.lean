/-
  The check sums of chapter 2 as plain functions on natural numbers, and what is true of them. No program is in sight. No conditions.
-/
import Derived.Laws.BitsAllLaws
namespace Go.Proofs.Yteefnbgcbjeffaa

/-- one shift of the register -/
def crcStep (p x : Nat) : Nat := if x % 2 = 1 then (x / 2) ^^^ p else x / 2
def crcSteps (p : Nat) : Nat → Nat → Nat
  | 0, x => x
  | k + 1, x => crcStep p (crcSteps p k x)
def crcByte (p x : Nat) (c : UInt8) : Nat := crcSteps p 8 (x ^^^ c.toNat)
def crc (p x : Nat) (l : List UInt8) : Nat := l.foldl (crcByte p) x

theorem crcStep_lt {p x n : Nat} (hp : p < 2 ^ n) (hx : x < 2 ^ n) : crcStep p x < 2 ^ n := by
  unfold crcStep
  split
  · exact Nat.xor_lt_two_pow (by omega) hp
  · omega
theorem crcSteps_lt {p x n : Nat} (hp : p < 2 ^ n) (hx : x < 2 ^ n) : ∀ k, crcSteps p k x < 2 ^ n
  | 0 => hx
  | k + 1 => crcStep_lt hp (crcSteps_lt hp hx k)
theorem crcByte_lt {p x n : Nat} (c : UInt8) (hn : 8 ≤ n) (hp : p < 2 ^ n) (hx : x < 2 ^ n) : crcByte p x c < 2 ^ n := by
  refine crcSteps_lt hp (Nat.xor_lt_two_pow hx ?_) 8
  have h1 : c.toNat < 2 ^ 8 := c.toNat_lt
  exact Nat.lt_of_lt_of_le h1 (Nat.pow_le_pow_right (by omega) hn)
theorem crc_lt {p n : Nat} (hn : 8 ≤ n) (hp : p < 2 ^ n) : ∀ (l : List UInt8) (x : Nat), x < 2 ^ n → crc p x l < 2 ^ n
  | [], _, hx => hx
  | c :: l, _, hx => crc_lt hn hp l _ (crcByte_lt c hn hp hx)
theorem crc_snoc (p x : Nat) (l : List UInt8) (c : UInt8) : crc p x (l ++ [c]) = crcByte p (crc p x l) c := by
  simp [crc, List.foldl_append]

/-- the step is linear -/
theorem crcStep_xor (p x y : Nat) : crcStep p (x ^^^ y) = crcStep p x ^^^ crcStep p y := by
  have hd : (x ^^^ y) / 2 = x / 2 ^^^ y / 2 := by
    have := Nat.shiftRight_xor_distrib (a := x) (b := y) (i := 1)
    simpa [Nat.shiftRight_eq_div_pow] using this
  have hm : (x ^^^ y) % 2 = (x % 2) ^^^ (y % 2) := Nat.xor_mod_two_pow (n := 1)
  unfold crcStep
  rw [hd, hm]
  rcases Nat.mod_two_eq_zero_or_one x with hx | hx <;> rcases Nat.mod_two_eq_zero_or_one y with hy | hy <;> simp [hx, hy]
  · rw [Nat.xor_assoc]
  · rw [Nat.xor_assoc, Nat.xor_assoc, Nat.xor_comm p (y / 2)]
  · rw [Nat.xor_assoc, ← Nat.xor_assoc p, Nat.xor_comm p (y / 2), Nat.xor_assoc (y / 2), Nat.xor_self, Nat.xor_zero]
theorem crcSteps_xor (p : Nat) : ∀ k x y, crcSteps p k (x ^^^ y) = crcSteps p k x ^^^ crcSteps p k y
  | 0, _, _ => rfl
  | k + 1, x, y => by simp only [crcSteps, crcSteps_xor p k, crcStep_xor]
theorem xor_swap3 (x y z a b c : Nat) : (x ^^^ y ^^^ z) ^^^ (a ^^^ b ^^^ c) = (x ^^^ a) ^^^ (y ^^^ b) ^^^ (z ^^^ c) := by
  ac_rfl
theorem crcByte_xor3 (p x y z : Nat) (a b c : UInt8) :
    crcByte p (x ^^^ y ^^^ z) (a ^^^ b ^^^ c) = crcByte p x a ^^^ crcByte p y b ^^^ crcByte p z c := by
  unfold crcByte
  rw [show (a ^^^ b ^^^ c).toNat = a.toNat ^^^ b.toNat ^^^ c.toNat by simp, xor_swap3, crcSteps_xor, crcSteps_xor]
/-- the register of three rows of one length, xor'd byte by byte -/
theorem crc_xor3 (p : Nat) : ∀ (n : Nat) (la lb lc ld : List UInt8) (x y z : Nat), la.length = n → lb.length = n → lc.length = n → ld.length = n →
    (∀ j, j < n → ld.getD j 0 = la.getD j 0 ^^^ lb.getD j 0 ^^^ lc.getD j 0) →
    crc p (x ^^^ y ^^^ z) ld = crc p x la ^^^ crc p y lb ^^^ crc p z lc
  | 0, [], [], [], [], _, _, _, _, _, _, _, _ => rfl
  | n + 1, a :: la, b :: lb, c :: lc, d :: ld, x, y, z, h1, h2, h3, h4, h => by
    have h0 : d = a ^^^ b ^^^ c := by simpa using h 0 (by omega)
    simp only [crc, List.foldl_cons]
    rw [h0, crcByte_xor3]
    exact crc_xor3 p n la lb lc ld _ _ _ (by simpa using h1) (by simpa using h2) (by simpa using h3) (by simpa using h4)
      (fun j hj => by simpa using h (j + 1) (by omega))

/-- the two sums -/
def s16 (l : List UInt8) : Nat := crc 33800 65535 l ^^^ 65535
def s32 (l : List UInt8) : Nat := crc 3988292384 4294967295 l ^^^ 4294967295
theorem s16_lt (l : List UInt8) : s16 l < 65536 := Nat.xor_lt_two_pow (n := 16) (crc_lt (n := 16) (by omega) (by omega) _ _ (by omega)) (by omega)
theorem s32_lt (l : List UInt8) : s32 l < 4294967296 := Nat.xor_lt_two_pow (n := 32) (crc_lt (n := 32) (by omega) (by omega) _ _ (by omega)) (by omega)
def tail16 (l : List UInt8) : List UInt8 := [UInt8.ofNat (s16 l), UInt8.ofNat (s16 l / 256)]
def tail32 (l : List UInt8) : List UInt8 := [UInt8.ofNat (s32 l), UInt8.ofNat (s32 l / 256), UInt8.ofNat (s32 l / 65536), UInt8.ofNat (s32 l / 16777216)]
/-- are the last k bytes the tail of those ahead of them? -/
def chk (k : Nat) (tail : List UInt8 → List UInt8) (l : List UInt8) : Bool :=
  decide (k ≤ l.length) && decide (l.take (l.length - k) ++ tail (l.take (l.length - k)) = l)
def chkOut (k : Nat) (tail : List UInt8 → List UInt8) (l : List UInt8) : List UInt8 := if chk k tail l then l.take (l.length - k) else []

theorem chk_add (k : Nat) (tail : List UInt8 → List UInt8) (ht : ∀ l, (tail l).length = k) (l : List UInt8) : chk k tail (l ++ tail l) = true := by
  have h1 : (l ++ tail l).length - k = l.length := by simp [ht]
  simp [chk, ht]
theorem chkOut_add (k : Nat) (tail : List UInt8 → List UInt8) (ht : ∀ l, (tail l).length = k) (l : List UInt8) : chkOut k tail (l ++ tail l) = l := by
  simp [chkOut, chk_add k tail ht, ht]
theorem tail16_length (l : List UInt8) : (tail16 l).length = 2 := rfl
theorem tail32_length (l : List UInt8) : (tail32 l).length = 4 := rfl

theorem chkOut_le (k : Nat) (tail : List UInt8 → List UInt8) (l : List UInt8) : (chkOut k tail l).length ≤ l.length := by
  unfold chkOut; split <;> simp

theorem xor3_self (x : Nat) : x ^^^ x ^^^ x = x := by rw [Nat.xor_self, Nat.zero_xor]
theorem s16_xor3 (n : Nat) (la lb lc ld : List UInt8) (h1 : la.length = n) (h2 : lb.length = n) (h3 : lc.length = n) (h4 : ld.length = n)
    (h : ∀ j, j < n → ld.getD j 0 = la.getD j 0 ^^^ lb.getD j 0 ^^^ lc.getD j 0) : s16 ld = s16 la ^^^ s16 lb ^^^ s16 lc := by
  have := crc_xor3 33800 n la lb lc ld 65535 65535 65535 h1 h2 h3 h4 h
  rw [xor3_self] at this
  unfold s16
  rw [this]
  conv => lhs; rw [← xor3_self 65535]
  exact xor_swap3 _ _ _ _ _ _
theorem s32_xor3 (n : Nat) (la lb lc ld : List UInt8) (h1 : la.length = n) (h2 : lb.length = n) (h3 : lc.length = n) (h4 : ld.length = n)
    (h : ∀ j, j < n → ld.getD j 0 = la.getD j 0 ^^^ lb.getD j 0 ^^^ lc.getD j 0) : s32 ld = s32 la ^^^ s32 lb ^^^ s32 lc := by
  have := crc_xor3 3988292384 n la lb lc ld 4294967295 4294967295 4294967295 h1 h2 h3 h4 h
  rw [xor3_self] at this
  unfold s32
  rw [this]
  conv => lhs; rw [← xor3_self 4294967295]
  exact xor_swap3 _ _ _ _ _ _
end Go.Proofs.Yteefnbgcbjeffaa
