/-
  The walks of Add, Add32, check, Check and Check32 of package fcs. Conditions: the slices read as bytes; what is made takes fewer than 2^47 bytes.
-/
import Derived.Test.YteefnbgcbjeffaaFcsAdd
namespace Go.Proofs.Yteefnbgcbjeffaa
open Go.RowKit

set_option maxHeartbeats 400000 in
theorem Add_any (a : Option Addr) (n c : Nat) (l : List UInt8) (w : World) (hB : Bts w a n c l) (hn9 : n ≤ 140737488355000) :
    Calls Try.prog 17 #[.slice a n c] w fun e w' => ∃ v, e = .returned v ∧ w'.ownsRow w.heap.size 5 1 v (n + 2) ((l ++ tail16 l).map bv) ∧ Below w.heap.size w w' := by
  go_enter Try.func17, Try.ntmps17
  go_wp2_with (first | (go_at_call 7; go_in) | (go_at_call 20; refine (sum16_any a n c l _ 33800 (by omega) hB).mono ?_; rintro e w' ⟨rfl, rfl⟩) | (go_at_call 26; refine (add16_any a n c l _ (s16 l) (s16_lt l) hB hn9).mono ?_; rintro e w' ⟨v, rfl, ho, hb⟩))
  go_ret
  exact ⟨_, rfl, ho, hb⟩

set_option maxHeartbeats 400000 in
theorem sum16_top (a : Option Addr) (n c : Nat) (l : List UInt8) (w : World) (hB : Bts w a n c l) :
    Calls Try.prog 7 #[.slice a n c] w fun e w' => e = .returned (.int .u16 ((s16 l : Nat) : Int)) ∧ w = w' := by
  go_enter Try.func7, Try.ntmps7
  go_wp2_with (first | (go_at_call 20; refine (sum16_any a n c l _ 33800 (by omega) hB).mono ?_; rintro e w' ⟨rfl, rfl⟩))
  go_ret
  exact ⟨rfl, rfl⟩

set_option maxHeartbeats 400000 in
theorem Add32_any (a : Option Addr) (n c : Nat) (l : List UInt8) (w : World) (hB : Bts w a n c l) (hn9 : n ≤ 140737488355000) :
    Calls Try.prog 11 #[.slice a n c] w fun e w' => ∃ v, e = .returned v ∧ w'.ownsRow w.heap.size 5 1 v (n + 4) ((l ++ tail32 l).map bv) ∧ Below w.heap.size w w' := by
  go_enter Try.func11, Try.ntmps11
  go_wp2_with (first | (go_at_call 8; go_in) | (go_at_call 21; refine (sum32_any a n c l _ 3988292384 (by omega) hB).mono ?_; rintro e w' ⟨rfl, rfl⟩) | (go_at_call 23; refine (add32_any a n c l _ (s32 l) (s32_lt l) hB hn9).mono ?_; rintro e w' ⟨v, rfl, ho, hb⟩))
  go_ret
  exact ⟨_, rfl, ho, hb⟩

set_option maxHeartbeats 400000 in
theorem sum32_top (a : Option Addr) (n c : Nat) (l : List UInt8) (w : World) (hB : Bts w a n c l) :
    Calls Try.prog 8 #[.slice a n c] w fun e w' => e = .returned (.int .u32 ((s32 l : Nat) : Int)) ∧ w = w' := by
  go_enter Try.func8, Try.ntmps8
  go_wp2_with (first | (go_at_call 21; refine (sum32_any a n c l _ 3988292384 (by omega) hB).mono ?_; rintro e w' ⟨rfl, rfl⟩))
  go_ret
  exact ⟨rfl, rfl⟩

set_option maxHeartbeats 400000 in
theorem check16_no (a : Option Addr) (n c : Nat) (l : List UInt8) (w : World) (hB : Bts w a n c l) (h2 : n < 2) :
    Calls Try.prog 22 #[.slice a n c, .int .i64 2, .func (.func 17) #[] #[]] w fun e w' => ∃ v, e = .returned (.tuple #[v, .bool (chk 2 tail16 l)]) ∧
      w'.ownsRow w.heap.size 5 1 v (chkOut 2 tail16 l).length ((chkOut 2 tail16 l).map bv) ∧ Below w.heap.size w w' := by
  have hl := hB.len
  have hT : chk 2 tail16 l = false := by simp [chk, show ¬ 2 ≤ l.length by omega]
  have hO : chkOut 2 tail16 l = [] := by simp [chkOut, hT]
  have hT' := Lib.hid hT; clear hT
  have hO' := Lib.hid hO; clear hO
  go_enter Try.func22, Try.ntmps22
  go_wp2
  go_ret2
  exact ⟨.slice none 0 0, ret_vb hT'.out.symm, by rw [hO'.out]; exact World.ownsRow_nil _ _ _ _, Below.refl _ _⟩

set_option maxHeartbeats 800000 in
theorem check16_yes (a : Option Addr) (n c : Nat) (l : List UInt8) (w : World) (hB : Bts w a n c l) (h2 : 2 ≤ n) (hn9 : n ≤ 140737488355000) :
    Calls Try.prog 22 #[.slice a n c, .int .i64 2, .func (.func 17) #[] #[]] w fun e w' => ∃ v, e = .returned (.tuple #[v, .bool (chk 2 tail16 l)]) ∧
      w'.ownsRow w.heap.size 5 1 v (chkOut 2 tail16 l).length ((chkOut 2 tail16 l).map bv) ∧ Below w.heap.size w w' := by
  have hn := hB.cap
  have hc := hB.reach
  have hl := hB.len
  obtain ⟨i0, hi, hz0, hz1, hz2⟩ := info_parts Try.info5
  have hi' := Lib.hid hi; clear hi
  go_enter Try.func22, Try.ntmps22
  go_wp2_with (at_builtin; go_must (refine wp_appB rfl _ _ 22 rfl w.heap.size 5 i0 _ 1 Try.underlying22 hi'.out hz0 hz1 hz2 rfl _ 0 [] rfl (World.ownsRow_nil _ _ _ _) a (n - 2) c (l.take (n - 2)) rfl (hB.take (by omega)) ?c3 ?c4 (Nat.le_refl _) ?_))
  case c3 => unfold maxLen; omega
  case c4 => omega
  intro v w1 ho hg
  have hb := below_grown (Below.refl w.heap.size w) (World.ownsRow_nil w w.heap.size 5 1) hg (Nat.le_refl _)
  clear hg
  have ho := own_congr (xs' := (l.take (n - 2)).map bv) ho rfl (by simp)
  obtain ⟨a1, c1, rfl, hB1⟩ := Bts.of_own ho (by omega)
  have hBw1 := hB.below hb (Nat.le_refl _)
  have hcv1 := conv_bts (P := Try.prog) Try.underlying22 Try.underlying5 Try.underlying9 hBw1.drew
  have hkn : n - 2 + 2 = n := by omega
  have hkn' := Lib.hid hkn; clear hkn
  by_cases hT : (l.take (n - 2) ++ tail16 (l.take (n - 2)) == l) = true
  · have hC : chk 2 tail16 l = true := by
      have := beq_iff_eq.1 hT
      simp [chk, hl, h2, this]
    have hO : chkOut 2 tail16 l = l.take (n - 2) := by simp [chkOut, hC, hl]
    have hC' := Lib.hid hC; clear hC
    have hO' := Lib.hid hO; clear hO
    go_wp2
    go_region_with (first | (go_at_call 17; refine (Add_any a1 _ c1 _ _ hB1.drew (by omega)).mono ?_; rintro e w2 ⟨v2, rfl, ho2, hb9⟩; have hb2 := below_of_drew hb9; have hcvb := conv_bts (P := Try.prog) Try.underlying22 Try.underlying5 Try.underlying9 (hBw1.below hb2 (Nat.le_refl _)); obtain ⟨a2, c2, rfl, hB2⟩ := Bts.of_own (own_congr ho2 hkn'.out rfl) (by omega); have hcv2 := conv_bts (P := Try.prog) Try.underlying22 Try.underlying5 Try.underlying9 hB2))
    all_goals
      have ho3 := own_congr (n' := (chkOut 2 tail16 l).length) (xs' := (chkOut 2 tail16 l).map bv) (own_below ho hb2) (by rw [hO'.out]; simp; omega) (by rw [hO'.out])
      have hb3 := hb.trans (hb2.mono hb.size)
      clear hb2 hb9 ho2 hB2 hcv2 hcvb ho
      go_wp2
      go_ret2
      exact ⟨_, ret_vb hC'.out.symm, ho3, hb3⟩
  · have hC : chk 2 tail16 l = false := by
      have this : ¬ (l.take (n - 2) ++ tail16 (l.take (n - 2)) = l) := fun e => hT (beq_iff_eq.2 e)
      simp only [chk, hl, Bool.and_eq_false_iff, decide_eq_false_iff_not]
      exact Or.inr this
    have hT2 : (l.take (n - 2) ++ tail16 (l.take (n - 2)) == l) = false := by simpa using hT
    have hO : chkOut 2 tail16 l = [] := by simp [chkOut, hC]
    have hC' := Lib.hid hC; clear hC hT
    have hO' := Lib.hid hO; clear hO
    go_wp2
    go_region_with (first | (go_at_call 17; refine (Add_any a1 _ c1 _ _ hB1.drew (by omega)).mono ?_; rintro e w2 ⟨v2, rfl, ho2, hb9⟩; have hb2 := below_of_drew hb9; have hcvb := conv_bts (P := Try.prog) Try.underlying22 Try.underlying5 Try.underlying9 (hBw1.below hb2 (Nat.le_refl _)); obtain ⟨a2, c2, rfl, hB2⟩ := Bts.of_own (own_congr ho2 hkn'.out rfl) (by omega); have hcv2 := conv_bts (P := Try.prog) Try.underlying22 Try.underlying5 Try.underlying9 hB2))
    all_goals
      have hb3 := hb.trans (hb2.mono hb.size)
      clear hb2 hb9 ho2 hB2 hcv2 hcvb ho
      go_wp2
      go_ret2
      exact ⟨.slice none 0 0, ret_vb hC'.out.symm, by rw [hO'.out]; exact World.ownsRow_nil _ _ _ _, hb3⟩

theorem check16_any (a : Option Addr) (n c : Nat) (l : List UInt8) (w : World) (hB : Bts w a n c l) (hn9 : n ≤ 140737488355000) :
    Calls Try.prog 22 #[.slice a n c, .int .i64 2, .func (.func 17) #[] #[]] w fun e w' => ∃ v, e = .returned (.tuple #[v, .bool (chk 2 tail16 l)]) ∧
      w'.ownsRow w.heap.size 5 1 v (chkOut 2 tail16 l).length ((chkOut 2 tail16 l).map bv) ∧ Below w.heap.size w w' := by
  by_cases h2 : n < 2
  · exact check16_no a n c l w hB h2
  · exact check16_yes a n c l w hB (by omega) hn9

set_option maxHeartbeats 400000 in
theorem Check_any (a : Option Addr) (n c : Nat) (l : List UInt8) (w : World) (hB : Bts w a n c l) (hn9 : n ≤ 140737488355000) :
    Calls Try.prog 9 #[.slice a n c] w fun e w' => ∃ v, e = .returned (.tuple #[v, .bool (chk 2 tail16 l)]) ∧
      w'.ownsRow w.heap.size 5 1 v (chkOut 2 tail16 l).length ((chkOut 2 tail16 l).map bv) ∧ Below w.heap.size w w' := by
  go_enter Try.func9, Try.ntmps9
  go_wp2_with (first | (go_at_call 22; refine (check16_any a n c l _ hB hn9).mono ?_; rintro e w' ⟨v, rfl, ho, hb⟩))
  go_ret2
  exact ⟨_, rfl, ho, hb⟩

set_option maxHeartbeats 400000 in
theorem check32_no (a : Option Addr) (n c : Nat) (l : List UInt8) (w : World) (hB : Bts w a n c l) (h2 : n < 4) :
    Calls Try.prog 22 #[.slice a n c, .int .i64 4, .func (.func 11) #[] #[]] w fun e w' => ∃ v, e = .returned (.tuple #[v, .bool (chk 4 tail32 l)]) ∧
      w'.ownsRow w.heap.size 5 1 v (chkOut 4 tail32 l).length ((chkOut 4 tail32 l).map bv) ∧ Below w.heap.size w w' := by
  have hl := hB.len
  have hT : chk 4 tail32 l = false := by simp [chk, show ¬ 4 ≤ l.length by omega]
  have hO : chkOut 4 tail32 l = [] := by simp [chkOut, hT]
  have hT' := Lib.hid hT; clear hT
  have hO' := Lib.hid hO; clear hO
  go_enter Try.func22, Try.ntmps22
  go_wp2
  go_ret2
  exact ⟨.slice none 0 0, ret_vb hT'.out.symm, by rw [hO'.out]; exact World.ownsRow_nil _ _ _ _, Below.refl _ _⟩

set_option maxHeartbeats 800000 in
theorem check32_yes (a : Option Addr) (n c : Nat) (l : List UInt8) (w : World) (hB : Bts w a n c l) (h2 : 4 ≤ n) (hn9 : n ≤ 140737488355000) :
    Calls Try.prog 22 #[.slice a n c, .int .i64 4, .func (.func 11) #[] #[]] w fun e w' => ∃ v, e = .returned (.tuple #[v, .bool (chk 4 tail32 l)]) ∧
      w'.ownsRow w.heap.size 5 1 v (chkOut 4 tail32 l).length ((chkOut 4 tail32 l).map bv) ∧ Below w.heap.size w w' := by
  have hn := hB.cap
  have hc := hB.reach
  have hl := hB.len
  obtain ⟨i0, hi, hz0, hz1, hz2⟩ := info_parts Try.info5
  have hi' := Lib.hid hi; clear hi
  go_enter Try.func22, Try.ntmps22
  go_wp2_with (at_builtin; go_must (refine wp_appB rfl _ _ 22 rfl w.heap.size 5 i0 _ 1 Try.underlying22 hi'.out hz0 hz1 hz2 rfl _ 0 [] rfl (World.ownsRow_nil _ _ _ _) a (n - 4) c (l.take (n - 4)) rfl (hB.take (by omega)) ?c3 ?c4 (Nat.le_refl _) ?_))
  case c3 => unfold maxLen; omega
  case c4 => omega
  intro v w1 ho hg
  have hb := below_grown (Below.refl w.heap.size w) (World.ownsRow_nil w w.heap.size 5 1) hg (Nat.le_refl _)
  clear hg
  have ho := own_congr (xs' := (l.take (n - 4)).map bv) ho rfl (by simp)
  obtain ⟨a1, c1, rfl, hB1⟩ := Bts.of_own ho (by omega)
  have hBw1 := hB.below hb (Nat.le_refl _)
  have hcv1 := conv_bts (P := Try.prog) Try.underlying22 Try.underlying5 Try.underlying9 hBw1.drew
  have hkn : n - 4 + 4 = n := by omega
  have hkn' := Lib.hid hkn; clear hkn
  by_cases hT : (l.take (n - 4) ++ tail32 (l.take (n - 4)) == l) = true
  · have hC : chk 4 tail32 l = true := by
      have := beq_iff_eq.1 hT
      simp [chk, hl, h2, this]
    have hO : chkOut 4 tail32 l = l.take (n - 4) := by simp [chkOut, hC, hl]
    have hC' := Lib.hid hC; clear hC
    have hO' := Lib.hid hO; clear hO
    go_wp2
    go_region_with (first | (go_at_call 11; refine (Add32_any a1 _ c1 _ _ hB1.drew (by omega)).mono ?_; rintro e w2 ⟨v2, rfl, ho2, hb9⟩; have hb2 := below_of_drew hb9; have hcvb := conv_bts (P := Try.prog) Try.underlying22 Try.underlying5 Try.underlying9 (hBw1.below hb2 (Nat.le_refl _)); obtain ⟨a2, c2, rfl, hB2⟩ := Bts.of_own (own_congr ho2 hkn'.out rfl) (by omega); have hcv2 := conv_bts (P := Try.prog) Try.underlying22 Try.underlying5 Try.underlying9 hB2))
    all_goals
      have ho3 := own_congr (n' := (chkOut 4 tail32 l).length) (xs' := (chkOut 4 tail32 l).map bv) (own_below ho hb2) (by rw [hO'.out]; simp; omega) (by rw [hO'.out])
      have hb3 := hb.trans (hb2.mono hb.size)
      clear hb2 hb9 ho2 hB2 hcv2 hcvb ho
      go_wp2
      go_ret2
      exact ⟨_, ret_vb hC'.out.symm, ho3, hb3⟩
  · have hC : chk 4 tail32 l = false := by
      have this : ¬ (l.take (n - 4) ++ tail32 (l.take (n - 4)) = l) := fun e => hT (beq_iff_eq.2 e)
      simp only [chk, hl, Bool.and_eq_false_iff, decide_eq_false_iff_not]
      exact Or.inr this
    have hT2 : (l.take (n - 4) ++ tail32 (l.take (n - 4)) == l) = false := by simpa using hT
    have hO : chkOut 4 tail32 l = [] := by simp [chkOut, hC]
    have hC' := Lib.hid hC; clear hC hT
    have hO' := Lib.hid hO; clear hO
    go_wp2
    go_region_with (first | (go_at_call 11; refine (Add32_any a1 _ c1 _ _ hB1.drew (by omega)).mono ?_; rintro e w2 ⟨v2, rfl, ho2, hb9⟩; have hb2 := below_of_drew hb9; have hcvb := conv_bts (P := Try.prog) Try.underlying22 Try.underlying5 Try.underlying9 (hBw1.below hb2 (Nat.le_refl _)); obtain ⟨a2, c2, rfl, hB2⟩ := Bts.of_own (own_congr ho2 hkn'.out rfl) (by omega); have hcv2 := conv_bts (P := Try.prog) Try.underlying22 Try.underlying5 Try.underlying9 hB2))
    all_goals
      have hb3 := hb.trans (hb2.mono hb.size)
      clear hb2 hb9 ho2 hB2 hcv2 hcvb ho
      go_wp2
      go_ret2
      exact ⟨.slice none 0 0, ret_vb hC'.out.symm, by rw [hO'.out]; exact World.ownsRow_nil _ _ _ _, hb3⟩

theorem check32_any (a : Option Addr) (n c : Nat) (l : List UInt8) (w : World) (hB : Bts w a n c l) (hn9 : n ≤ 140737488355000) :
    Calls Try.prog 22 #[.slice a n c, .int .i64 4, .func (.func 11) #[] #[]] w fun e w' => ∃ v, e = .returned (.tuple #[v, .bool (chk 4 tail32 l)]) ∧
      w'.ownsRow w.heap.size 5 1 v (chkOut 4 tail32 l).length ((chkOut 4 tail32 l).map bv) ∧ Below w.heap.size w w' := by
  by_cases h2 : n < 4
  · exact check32_no a n c l w hB h2
  · exact check32_yes a n c l w hB (by omega) hn9

set_option maxHeartbeats 400000 in
theorem Check32_any (a : Option Addr) (n c : Nat) (l : List UInt8) (w : World) (hB : Bts w a n c l) (hn9 : n ≤ 140737488355000) :
    Calls Try.prog 10 #[.slice a n c] w fun e w' => ∃ v, e = .returned (.tuple #[v, .bool (chk 4 tail32 l)]) ∧
      w'.ownsRow w.heap.size 5 1 v (chkOut 4 tail32 l).length ((chkOut 4 tail32 l).map bv) ∧ Below w.heap.size w w' := by
  go_enter Try.func10, Try.ntmps10
  go_wp2_with (first | (go_at_call 22; refine (check32_any a n c l _ hB hn9).mono ?_; rintro e w' ⟨v, rfl, ho, hb⟩))
  go_ret2
  exact ⟨_, rfl, ho, hb⟩

end Go.Proofs.Yteefnbgcbjeffaa
