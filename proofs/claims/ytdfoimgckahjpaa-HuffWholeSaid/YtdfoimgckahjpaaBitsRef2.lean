/-
  The walks of the reference's bits: a number. Conditions: they are bits that were made.
-/
import Derived.Test.YtdfoimgckahjpaaBitsRef
namespace Go.Proofs.Ytdfoimgckahjpaa
open Go.RowKit
theorem or_two (X B : Nat) (hX : X < 4294967296) (hB : B ≤ 1) : bits .or .i64 ((X : Int) * 2) (B : Int) = ((X <<< 1 ||| B : Nat) : Int) := by
  have e : (X : Int) * (2 : Int) = ((X <<< 1 : Nat) : Int) := by rw [Nat.shiftLeft_eq]; simp
  rw [e]
  exact i64_or_nat _ _ (by rw [Nat.shiftLeft_eq]; omega) (by omega)
theorem or_shl_low (X B k : Nat) (hX : X < 2 ^ k) (hB : B ≤ 1) (hk : k < 32) : bits .or .i64 (X : Int) (wrap64 ((B : Int) * 2 ^ k)) = ((X ||| (B <<< k) : Nat) : Int) :=
  or_shl X B k (k + 1) hB (by omega) (by omega) (Nat.lt_of_lt_of_le hX (Nat.pow_le_pow_right (by decide) (by omega)))
section
variable {w w' : World} {S b : Nat} {v : Value} {high : Bool} {fs : List Bool} {at_ : Nat}
set_option maxHeartbeats 1000000 in
theorem rnumber_any (h : Rf w S b v high fs at_) (n : Nat) (hn : n ≤ 32) :
    Calls Try.prog 56 #[.pointer (some ⟨b, 0, none⟩), .int .i64 (n : Int)] w fun e w' => e = .returned (.int .i64 ((num high (fun k => fs.getD (at_ + k) false) n n : Nat) : Int)) ∧ ∃ m, w' = w.drewN m := by
  obtain ⟨a, c, rfl, hB⟩ := h.shape
  have g0 := h.blk.cell 0
  have g1 := h.blk.cell 1
  have g2 := h.blk.cell 2
  have hl := h.le
  have hf := h.few
  simp at g0 g1 g2
  go_enter Try.func56, Try.ntmps56
  go_wp2_with fail
  go_loopw [5, 6] (fun x i wr => ∃ k q : Nat, k ≤ n ∧ i = .int .i64 k ∧ x = .int .i64 ((refNum high (fun k => fs.getD (at_ + k) false) k : Nat) : Int) ∧ wr = w.drewN q) (fun _ i _ => n - (intOf i).toNat)
  case atStart => exact ⟨0, 0, by omega, rfl, rfl, rfl⟩
  case round =>
    obtain ⟨k, q, hk, rfl, rfl, rfl⟩ := hrel
    by_cases hlt : k < n
    · have hX := refNum_lt high (fun k => fs.getD (at_ + k) false) k
      have hX2 := pow_le32 (show k ≤ 32 by omega)
      have hstep := refNum.eq_2 high (fun k => fs.getD (at_ + k) false) k
      generalize refNum high (fun k => fs.getD (at_ + k) false) k = X at *
      have hstep' := Lib.hid hstep; clear hstep
      have d1 : IntKind.i64.wrap ((at_ : Int) + (k : Int)) = ((at_ + k : Nat) : Int) := by rw [IntWalk.i64_in _ (by omega)]; omega
      by_cases hin : at_ + k < fs.length
      · have hinI : ((at_ + k : Nat) : Int) < (fs.length : Int) := by omega
        obtain ⟨b1, o1, rfl, hc1⟩ := hB.addr (by omega)
        have g3 := hc1 (at_ + k) hin
        rw [bb_getD] at g3
        clear hc1
        have hb1 : (fs.getD (at_ + k) false).toNat ≤ 1 := by cases fs.getD (at_ + k) false <;> simp
        generalize (fs.getD (at_ + k) false).toNat = B at *
        generalize at_ + k = j at *
        cases high with
        | true =>
          go_wp2_with fail
          go_quiet (fail)
          go_wp2_with fail
          go_quiet (fail)
          go_wp2_with fail
          go_roundw
          case rel =>
            refine ⟨k + 1, _, by omega, by go_num, ?_, rfl⟩
            rw [hstep'.out]
            simp only [if_true]
            rw [or_two _ _ (by omega) hb1]
          case measure => simp [intOf]; omega
        | false =>
          go_wp2_with fail
          go_quiet (fail)
          go_wp2_with fail
          go_quiet (fail)
          go_wp2_with fail
          go_roundw
          case rel =>
            refine ⟨k + 1, _, by omega, by go_num, ?_, rfl⟩
            rw [hstep'.out, if_neg (by decide), or_shl_low _ _ _ hX hb1 (by omega)]
          case measure => simp [intOf]; omega
      · have hz : fs.getD (at_ + k) false = false := getD_of_ge (by omega)
        rw [hz] at hstep'
        have hinI : (fs.length : Int) ≤ ((at_ + k : Nat) : Int) := by omega
        clear hz
        generalize at_ + k = j at *
        cases high with
        | true =>
          go_wp2_with fail
          go_quiet (fail)
          go_wp2_with fail
          go_roundw
          case rel =>
            refine ⟨k + 1, _, by omega, by go_num, ?_, rfl⟩
            have := or_two X 0 (by omega) (by omega)
            rw [hstep'.out]
            simp only [if_true]
            rw [show false.toNat = 0 from rfl, ← this]; rfl
          case measure => simp [intOf]; omega
        | false =>
          go_wp2_with fail
          go_quiet (fail)
          go_wp2_with fail
          go_roundw
          case rel =>
            refine ⟨k + 1, _, by omega, by go_num, ?_, rfl⟩
            have := i64_or_nat X 0 (by omega) (by omega)
            rw [hstep'.out, if_neg (by decide)]
            rw [show false.toNat = 0 from rfl, Nat.zero_shiftLeft, ← this]; rfl
          case measure => simp [intOf]; omega
    · obtain rfl : k = n := by omega
      go_wp2
      go_ret
      exact ⟨ret_int (by rw [refNum_eq]), q, rfl⟩
theorem rtake_no (h : Rf w S b v high fs at_) (N : Int) (hN : N < 0 ∨ 32 < N ∨ ((fs.length - at_ : Nat) : Int) < N) :
    Calls Try.prog 35 #[.pointer (some ⟨b, 0, none⟩), .int .i64 N] w fun e w' => e = .returned (.tuple #[.int .i64 0, .bool false]) ∧ ∃ m, w' = w.drewN m := by
  by_cases h1 : N < 0
  · go_enter Try.func35, Try.ntmps35
    go_wp2_with fail
    go_ret2
    exact ⟨rfl, 0, rfl⟩
  · by_cases h2 : 32 < N
    · go_enter Try.func35, Try.ntmps35
      go_wp2_with fail
      go_ret2
      exact ⟨rfl, 0, rfl⟩
    · have h3 : ((fs.length - at_ : Nat) : Int) < N := by omega
      generalize hx : (fs.length - at_ : Nat) = x at h3
      have hlf := rleft_any h
      rw [hx] at hlf
      have hlf' := Lib.hid hlf; clear hlf
      go_enter Try.func35, Try.ntmps35
      go_wp2_with (go_at_call 41; refine hlf'.out.mono ?_; rintro e w' ⟨rfl, m, rfl⟩)
      go_ret2
      exact ⟨rfl, m, rfl⟩
theorem Rf.drewN (h : Rf w S b v high fs at_) (m : Nat) : Rf (w.drewN m) S b v high fs at_ := h.below (below_drewN (Below.refl _ _) m)
set_option maxHeartbeats 400000 in
theorem rtake_yes (h : Rf w S b v high fs at_) (k : Nat) (h32 : k ≤ 32) (hk : at_ + k ≤ fs.length) :
    Calls Try.prog 35 #[.pointer (some ⟨b, 0, none⟩), .int .i64 (k : Int)] w fun e w' => e = .returned (.tuple #[.int .i64 ((num high (fun j => fs.getD (at_ + j) false) k k : Nat) : Int), .bool true]) ∧ Rf w' S b v high fs (at_ + k) ∧ w.grownBy w' (some b) := by
  have hf := h.few
  generalize hx : (fs.length - at_ : Nat) = x
  have h3 : k ≤ x := by omega
  have hlf := rleft_any h
  rw [hx] at hlf
  have hlf' := Lib.hid hlf; clear hlf
  clear hx
  go_enter Try.func35, Try.ntmps35
  go_wp2_with (go_at_call 41; refine hlf'.out.mono ?_; rintro e w' ⟨rfl, m, rfl⟩)
  have h1 := h.drewN m
  have hg1 := grown_drewN w m (some b)
  clear hlf'
  generalize w.drewN m = w1 at *
  refine (rnumber_any h1 k h32).mono ?_
  rintro e w2 ⟨rfl, q, rfl⟩
  have h2 := h1.drewN q
  have hg2 := grown_trans hg1 (grown_drewN w1 q (some b))
  clear h1 hg1
  generalize w1.drewN q = w2 at *
  have g1 := h2.blk.cell 1
  simp at g1
  have hset := h2.set (at_ + k) hk
  have gset := grown_trans hg2 (grown_set (w := w2) (b := b) (o := 1) (v := .int .i64 ((at_ + k : Nat) : Int)))
  have f1 := h2.blk.free 1 none
  clear h2 hg2
  go_wp2_with fail
  go_ret2
  rw [Int.natCast_add] at hset gset
  exact ⟨rfl, hset, gset⟩
theorem rpeek_no (N : Int) (hN : N < 0 ∨ 32 < N) :
    Calls Try.prog 36 #[.pointer (some ⟨b, 0, none⟩), .int .i64 N] w fun e w' => e = .returned (.tuple #[.int .i64 0, .int .i64 0]) ∧ w = w' := by
  by_cases h1 : N < 0
  · go_enter Try.func36, Try.ntmps36
    go_wp2_with fail
    go_ret2
    exact ⟨rfl, rfl⟩
  · have h2 : 32 < N := by omega
    go_enter Try.func36, Try.ntmps36
    go_wp2_with fail
    go_ret2
    exact ⟨rfl, rfl⟩
theorem rpeek_yes (h : Rf w S b v high fs at_) (k : Nat) (h32 : k ≤ 32) :
    Calls Try.prog 36 #[.pointer (some ⟨b, 0, none⟩), .int .i64 (k : Int)] w fun e w' => e = .returned (.tuple #[.int .i64 ((num high (fun j => fs.getD (at_ + j) false) k k : Nat) : Int), .int .i64 ((min k (fs.length - at_) : Nat) : Int)]) ∧ ∃ m, w' = w.drewN m := by
  have hmin : ∀ w, (Builtin.min_ #[3, 3] 3 #[.int .i64 k, .int .i64 ((fs.length - at_ : Nat) : Int)]).run Try.prog w = .ok (.int .i64 ((min k (fs.length - at_) : Nat) : Int)) w := fun w => run_min2 w _ _ k _
  have hlf := fun q => rleft_any (h.drewN q)
  generalize (fs.length - at_ : Nat) = x at *
  generalize min k x = m at *
  have hlf' := Lib.hid hlf; clear hlf
  go_enter Try.func36, Try.ntmps36
  go_wp2_with fail
  refine (rnumber_any h k h32).mono ?_
  rintro e w2 ⟨rfl, q, rfl⟩
  go_wp2_with fail
  refine (hlf'.out q).mono ?_
  rintro e w2 ⟨rfl, q2, rfl⟩
  go_wp2_with fail
  go_ret2
  exact ⟨rfl, q + q2, rfl⟩
end
end Go.Proofs.Ytdfoimgckahjpaa
