/-
  The walks of the reference's sums and of what it adds and checks. Conditions: the slices read as bytes; what is made takes fewer than 2^47 bytes.
-/
import Derived.Test.YteefnbgcbjeffaaFcsCheck
namespace Go.Proofs.Yteefnbgcbjeffaa
open Go.RowKit

set_option maxHeartbeats 400000 in
theorem rsum16_any (a : Option Addr) (n c : Nat) (l : List UInt8) (w : World) (hB : Bts w a n c l) :
    Calls Try.prog 14 #[.slice a n c] w fun e w' => e = .returned (.int .u16 ((s16 l : Nat) : Int)) ∧ w = w' := by
  have hlt := s16_lt l
  unfold s16 at *
  go_enter Try.func14, Try.ntmps14
  go_wp2_with (first | (go_at_call 25; refine (rsum_any a n c l _ 33800 65535 (by omega) (by omega) hB (by omega)).mono ?_; rintro e w' ⟨rfl, rfl⟩))
  go_ret
  exact ⟨rfl, rfl⟩
set_option maxHeartbeats 400000 in
theorem radd16_any (a : Option Addr) (n c : Nat) (l : List UInt8) (w : World) (hB : Bts w a n c l) (hn9 : n ≤ 140737488355000) :
    Calls Try.prog 18 #[.slice a n c] w fun e w' => ∃ v, e = .returned v ∧ w'.ownsRow w.heap.size 5 1 v (n + 2) ((l ++ tail16 l).map bv) ∧ Below w.heap.size w w' := by
  have hlt := s16_lt l
  obtain ⟨i0, hi, hz0, hz1, hz2⟩ := info_parts Try.info5
  have hi' := Lib.hid hi; clear hi
  go_enter Try.func18, Try.ntmps18
  go_wp2_with (first | (go_at_call 14; refine (rsum16_any a n c l _ hB).mono ?_; rintro e w' ⟨rfl, rfl⟩) | (go_at_call 24; refine (copy_any a n c l _ hB).mono ?_; rintro e w1 ⟨v, rfl, ho, hb⟩) | (at_builtin; go_must (refine wp_appK rfl _ _ 22 rfl w.heap.size 5 i0 _ 1 Try.underlying22 hi'.out hz0 hz1 hz2 rfl _ _ _ rfl ho _ ?c1 2 rfl rfl ?c3 ?c4 hb.size ?_)))
  case c1 => simp [Value.oneCell']
  case c3 => unfold maxLen; omega
  case c4 => omega
  intro v' w2 ho2 hg
  have hb2 := below_grown hb ho hg hb.size
  clear hg ho
  go_wp2
  go_ret
  refine ⟨_, rfl, own_congr ho2 rfl ?_, hb2⟩
  simp [tail16, bv] <;> omega

set_option maxHeartbeats 400000 in
theorem rsum32_any (a : Option Addr) (n c : Nat) (l : List UInt8) (w : World) (hB : Bts w a n c l) :
    Calls Try.prog 15 #[.slice a n c] w fun e w' => e = .returned (.int .u32 ((s32 l : Nat) : Int)) ∧ w = w' := by
  have hlt := s32_lt l
  unfold s32 at *
  go_enter Try.func15, Try.ntmps15
  go_wp2_with (first | (go_at_call 25; refine (rsum_any a n c l _ 3988292384 4294967295 (by omega) (by omega) hB (by omega)).mono ?_; rintro e w' ⟨rfl, rfl⟩))
  go_ret
  exact ⟨rfl, rfl⟩
set_option maxHeartbeats 400000 in
theorem radd32_any (a : Option Addr) (n c : Nat) (l : List UInt8) (w : World) (hB : Bts w a n c l) (hn9 : n ≤ 140737488355000) :
    Calls Try.prog 19 #[.slice a n c] w fun e w' => ∃ v, e = .returned v ∧ w'.ownsRow w.heap.size 5 1 v (n + 4) ((l ++ tail32 l).map bv) ∧ Below w.heap.size w w' := by
  have hlt := s32_lt l
  obtain ⟨i0, hi, hz0, hz1, hz2⟩ := info_parts Try.info5
  have hi' := Lib.hid hi; clear hi
  go_enter Try.func19, Try.ntmps19
  go_wp2_with (first | (go_at_call 15; refine (rsum32_any a n c l _ hB).mono ?_; rintro e w' ⟨rfl, rfl⟩) | (go_at_call 24; refine (copy_any a n c l _ hB).mono ?_; rintro e w1 ⟨v, rfl, ho, hb⟩) | (at_builtin; go_must (refine wp_appK rfl _ _ 22 rfl w.heap.size 5 i0 _ 1 Try.underlying22 hi'.out hz0 hz1 hz2 rfl _ _ _ rfl ho _ ?c1 4 rfl rfl ?c3 ?c4 hb.size ?_)))
  case c1 => simp [Value.oneCell']
  case c3 => unfold maxLen; omega
  case c4 => omega
  intro v' w2 ho2 hg
  have hb2 := below_grown hb ho hg hb.size
  clear hg ho
  go_wp2
  go_ret
  refine ⟨_, rfl, own_congr ho2 rfl ?_, hb2⟩
  simp [tail32, bv] <;> omega

-- CHECKS
set_option maxHeartbeats 400000 in
theorem rcheck16_no (a : Option Addr) (n c : Nat) (l : List UInt8) (w : World) (hB : Bts w a n c l) (h2 : n < 2) :
    Calls Try.prog 12 #[.slice a n c] w fun e w' => ∃ v, e = .returned (.tuple #[v, .bool (chk 2 tail16 l)]) ∧
      w'.ownsRow w.heap.size 5 1 v (chkOut 2 tail16 l).length ((chkOut 2 tail16 l).map bv) ∧ Below w.heap.size w w' := by
  have hn := hB.cap
  have hc := hB.reach
  have hl := hB.len
  have hlt : decide ((n : Int) - 2 < 0) = true := by simp; omega
  have hT : chk 2 tail16 l = false := by simp [chk, show ¬ 2 ≤ l.length by omega]
  have hO : chkOut 2 tail16 l = [] := by simp [chkOut, hT]
  have hT' := Lib.hid hT; clear hT
  have hO' := Lib.hid hO; clear hO
  go_enter Try.func12, Try.ntmps12
  go_wp2_with fail
  go_ret2
  exact ⟨.slice none 0 0, ret_vb hT'.out.symm, by rw [hO'.out]; exact World.ownsRow_nil _ _ _ _, Below.refl _ _⟩

set_option maxHeartbeats 400000 in
theorem rcheck16_yes (a : Option Addr) (n c : Nat) (l : List UInt8) (w : World) (hB : Bts w a n c l) (h2 : 2 ≤ n) (hn9 : n ≤ 140737488355000) :
    Calls Try.prog 12 #[.slice a n c] w fun e w' => ∃ v, e = .returned (.tuple #[v, .bool (chk 2 tail16 l)]) ∧
      w'.ownsRow w.heap.size 5 1 v (chkOut 2 tail16 l).length ((chkOut 2 tail16 l).map bv) ∧ Below w.heap.size w w' := by
  have hn := hB.cap
  have hc := hB.reach
  have hl := hB.len
  have hlt : decide ((n : Int) - 2 < 0) = false := by simp; omega
  have hkn : n - 2 + 2 = n := by omega
  have hkn' := Lib.hid hkn; clear hkn
  by_cases hT : (l.take (n - 2) ++ tail16 (l.take (n - 2)) = l)
  · have hD : decide (l.take (n - 2) ++ tail16 (l.take (n - 2)) = l) = true := decide_eq_true hT
    have hC : chk 2 tail16 l = true := by simp [chk, hl, h2, hT]
    have hO : chkOut 2 tail16 l = l.take (n - 2) := by simp [chkOut, hC, hl]
    have hC' := Lib.hid hC; clear hC hT
    have hO' := Lib.hid hO; clear hO
    go_enter Try.func12, Try.ntmps12
    go_wp2_with (first | (go_at_call 18; refine (radd16_any a (n - 2) c (l.take (n - 2)) _ (hB.take (by omega)) (by omega)).mono ?_; rintro e w1 ⟨v1, rfl, ho1, hb1⟩; obtain ⟨a1, c1, rfl, hB1⟩ := Bts.of_own (own_congr ho1 hkn'.out rfl) (by omega); have hBw1 := hB.below hb1 (Nat.le_refl _)) | (go_at_call 16; refine (same_any a1 a n n c1 c _ l _ hB1 hBw1).mono ?_; rintro e w2 ⟨rfl, hb2⟩; have hb3 := hb1.trans (hb2.mono hb1.size); have hBw2 := hB.below hb3 (Nat.le_refl _)) | (go_at_call 24; refine (copy_any a (n - 2) c (l.take (n - 2)) _ (hBw2.take (by omega))).mono ?_; rintro e w4 ⟨v4, rfl, ho4, hb4⟩))
    go_ret2
    refine ⟨_, ret_vb hC'.out.symm, ?_, hb3.trans (hb4.mono hb3.size)⟩
    exact own_mono (own_congr ho4 (by rw [hO'.out]; simp; omega) (by rw [hO'.out])) hb3.size
  · have hD : decide (l.take (n - 2) ++ tail16 (l.take (n - 2)) = l) = false := decide_eq_false hT
    have hC : chk 2 tail16 l = false := by
      simp only [chk, hl, Bool.and_eq_false_iff, decide_eq_false_iff_not]
      exact Or.inr hT
    have hO : chkOut 2 tail16 l = [] := by simp [chkOut, hC]
    have hC' := Lib.hid hC; clear hC hT
    have hO' := Lib.hid hO; clear hO
    go_enter Try.func12, Try.ntmps12
    go_wp2_with (first | (go_at_call 18; refine (radd16_any a (n - 2) c (l.take (n - 2)) _ (hB.take (by omega)) (by omega)).mono ?_; rintro e w1 ⟨v1, rfl, ho1, hb1⟩; obtain ⟨a1, c1, rfl, hB1⟩ := Bts.of_own (own_congr ho1 hkn'.out rfl) (by omega); have hBw1 := hB.below hb1 (Nat.le_refl _)) | (go_at_call 16; refine (same_any a1 a n n c1 c _ l _ hB1 hBw1).mono ?_; rintro e w2 ⟨rfl, hb2⟩; have hb3 := hb1.trans (hb2.mono hb1.size); have hBw2 := hB.below hb3 (Nat.le_refl _)))
    go_ret2
    exact ⟨.slice none 0 0, ret_vb hC'.out.symm, by rw [hO'.out]; exact World.ownsRow_nil _ _ _ _, hb3⟩

theorem rcheck16_any (a : Option Addr) (n c : Nat) (l : List UInt8) (w : World) (hB : Bts w a n c l) (hn9 : n ≤ 140737488355000) :
    Calls Try.prog 12 #[.slice a n c] w fun e w' => ∃ v, e = .returned (.tuple #[v, .bool (chk 2 tail16 l)]) ∧
      w'.ownsRow w.heap.size 5 1 v (chkOut 2 tail16 l).length ((chkOut 2 tail16 l).map bv) ∧ Below w.heap.size w w' := by
  by_cases h2 : n < 2
  · exact rcheck16_no a n c l w hB h2
  · exact rcheck16_yes a n c l w hB (by omega) hn9

set_option maxHeartbeats 400000 in
theorem rcheck32_no (a : Option Addr) (n c : Nat) (l : List UInt8) (w : World) (hB : Bts w a n c l) (h2 : n < 4) :
    Calls Try.prog 13 #[.slice a n c] w fun e w' => ∃ v, e = .returned (.tuple #[v, .bool (chk 4 tail32 l)]) ∧
      w'.ownsRow w.heap.size 5 1 v (chkOut 4 tail32 l).length ((chkOut 4 tail32 l).map bv) ∧ Below w.heap.size w w' := by
  have hn := hB.cap
  have hc := hB.reach
  have hl := hB.len
  have hlt : decide ((n : Int) - 4 < 0) = true := by simp; omega
  have hT : chk 4 tail32 l = false := by simp [chk, show ¬ 4 ≤ l.length by omega]
  have hO : chkOut 4 tail32 l = [] := by simp [chkOut, hT]
  have hT' := Lib.hid hT; clear hT
  have hO' := Lib.hid hO; clear hO
  go_enter Try.func13, Try.ntmps13
  go_wp2_with fail
  go_ret2
  exact ⟨.slice none 0 0, ret_vb hT'.out.symm, by rw [hO'.out]; exact World.ownsRow_nil _ _ _ _, Below.refl _ _⟩

set_option maxHeartbeats 400000 in
theorem rcheck32_yes (a : Option Addr) (n c : Nat) (l : List UInt8) (w : World) (hB : Bts w a n c l) (h2 : 4 ≤ n) (hn9 : n ≤ 140737488355000) :
    Calls Try.prog 13 #[.slice a n c] w fun e w' => ∃ v, e = .returned (.tuple #[v, .bool (chk 4 tail32 l)]) ∧
      w'.ownsRow w.heap.size 5 1 v (chkOut 4 tail32 l).length ((chkOut 4 tail32 l).map bv) ∧ Below w.heap.size w w' := by
  have hn := hB.cap
  have hc := hB.reach
  have hl := hB.len
  have hlt : decide ((n : Int) - 4 < 0) = false := by simp; omega
  have hkn : n - 4 + 4 = n := by omega
  have hkn' := Lib.hid hkn; clear hkn
  by_cases hT : (l.take (n - 4) ++ tail32 (l.take (n - 4)) = l)
  · have hD : decide (l.take (n - 4) ++ tail32 (l.take (n - 4)) = l) = true := decide_eq_true hT
    have hC : chk 4 tail32 l = true := by simp [chk, hl, h2, hT]
    have hO : chkOut 4 tail32 l = l.take (n - 4) := by simp [chkOut, hC, hl]
    have hC' := Lib.hid hC; clear hC hT
    have hO' := Lib.hid hO; clear hO
    go_enter Try.func13, Try.ntmps13
    go_wp2_with (first | (go_at_call 19; refine (radd32_any a (n - 4) c (l.take (n - 4)) _ (hB.take (by omega)) (by omega)).mono ?_; rintro e w1 ⟨v1, rfl, ho1, hb1⟩; obtain ⟨a1, c1, rfl, hB1⟩ := Bts.of_own (own_congr ho1 hkn'.out rfl) (by omega); have hBw1 := hB.below hb1 (Nat.le_refl _)) | (go_at_call 16; refine (same_any a1 a n n c1 c _ l _ hB1 hBw1).mono ?_; rintro e w2 ⟨rfl, hb2⟩; have hb3 := hb1.trans (hb2.mono hb1.size); have hBw2 := hB.below hb3 (Nat.le_refl _)) | (go_at_call 24; refine (copy_any a (n - 4) c (l.take (n - 4)) _ (hBw2.take (by omega))).mono ?_; rintro e w4 ⟨v4, rfl, ho4, hb4⟩))
    go_ret2
    refine ⟨_, ret_vb hC'.out.symm, ?_, hb3.trans (hb4.mono hb3.size)⟩
    exact own_mono (own_congr ho4 (by rw [hO'.out]; simp; omega) (by rw [hO'.out])) hb3.size
  · have hD : decide (l.take (n - 4) ++ tail32 (l.take (n - 4)) = l) = false := decide_eq_false hT
    have hC : chk 4 tail32 l = false := by
      simp only [chk, hl, Bool.and_eq_false_iff, decide_eq_false_iff_not]
      exact Or.inr hT
    have hO : chkOut 4 tail32 l = [] := by simp [chkOut, hC]
    have hC' := Lib.hid hC; clear hC hT
    have hO' := Lib.hid hO; clear hO
    go_enter Try.func13, Try.ntmps13
    go_wp2_with (first | (go_at_call 19; refine (radd32_any a (n - 4) c (l.take (n - 4)) _ (hB.take (by omega)) (by omega)).mono ?_; rintro e w1 ⟨v1, rfl, ho1, hb1⟩; obtain ⟨a1, c1, rfl, hB1⟩ := Bts.of_own (own_congr ho1 hkn'.out rfl) (by omega); have hBw1 := hB.below hb1 (Nat.le_refl _)) | (go_at_call 16; refine (same_any a1 a n n c1 c _ l _ hB1 hBw1).mono ?_; rintro e w2 ⟨rfl, hb2⟩; have hb3 := hb1.trans (hb2.mono hb1.size); have hBw2 := hB.below hb3 (Nat.le_refl _)))
    go_ret2
    exact ⟨.slice none 0 0, ret_vb hC'.out.symm, by rw [hO'.out]; exact World.ownsRow_nil _ _ _ _, hb3⟩

theorem rcheck32_any (a : Option Addr) (n c : Nat) (l : List UInt8) (w : World) (hB : Bts w a n c l) (hn9 : n ≤ 140737488355000) :
    Calls Try.prog 13 #[.slice a n c] w fun e w' => ∃ v, e = .returned (.tuple #[v, .bool (chk 4 tail32 l)]) ∧
      w'.ownsRow w.heap.size 5 1 v (chkOut 4 tail32 l).length ((chkOut 4 tail32 l).map bv) ∧ Below w.heap.size w w' := by
  by_cases h2 : n < 4
  · exact rcheck32_no a n c l w hB h2
  · exact rcheck32_yes a n c l w hB (by omega) hn9

end Go.Proofs.Yteefnbgcbjeffaa
