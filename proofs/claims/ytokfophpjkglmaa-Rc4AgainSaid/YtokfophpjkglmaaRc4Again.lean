/-
  The walk of the statement Rc4Again. No conditions.
-/
import Derived.Test.YtokfophpjkglmaaRc4Laws
namespace Go.Proofs.Ytokfophpjkglmaa
open Go.RowKit
theorem again_out (a1 a2 : Option Addr) (n1 n2 c1 c2 : Nat) (w : World) (h : n1 = 0 ∨ 128 < n1 ∨ 1000 < n2) :
    Calls Try.prog 4 #[.slice a1 n1 c1, .slice a2 n2 c2] w fun e w' => e = .returned (.bool true) ∧ Below w.heap.size w w' := by
  by_cases h1 : n1 = 0
  · subst h1
    go_enter Try.func4, Try.ntmps4
    go_wp2_with (go_at_call 9; refine (awake_any _).mono ?_; rintro e w1 ⟨rfl, hb1⟩)
    go_ret
    exact ⟨rfl, hb1⟩
  · have e1 : ((n1 : Int) == 0) = false := by simp; omega
    by_cases h2 : 128 < n1
    · go_enter Try.func4, Try.ntmps4
      go_wp2_with (go_at_call 9; refine (awake_any _).mono ?_; rintro e w1 ⟨rfl, hb1⟩)
      go_ret
      exact ⟨rfl, hb1⟩
    · have h3 : 1000 < n2 := by omega
      go_enter Try.func4, Try.ntmps4
      go_wp2_with (go_at_call 9; refine (awake_any _).mono ?_; rintro e w1 ⟨rfl, hb1⟩)
      go_ret
      exact ⟨rfl, hb1⟩
set_option maxHeartbeats 400000 in
theorem again_in (a1 a2 : Option Addr) (n1 n2 c1 c2 : Nat) (key l : List UInt8) (w : World) (hK : Bts w a1 n1 c1 key) (hB : Bts w a2 n2 c2 l) (h1 : 1 ≤ n1) (h2 : n1 ≤ 128) (h3 : n2 ≤ 1000) :
    Calls Try.prog 4 #[.slice a1 n1 c1, .slice a2 n2 c2] w fun e w' => e = .returned (.bool true) ∧ Below w.heap.size w w' := by
  have e1 : ((n1 : Int) == 0) = false := by simp; omega
  have neB := fun (b : Nat) (hb : w.heap.size ≤ b) => hB.ne hb
  have neB' := Lib.hid neB; clear neB
  have hkl := hK.len
  have hkc := hK.cap
  have hbc := hB.cap
  obtain ⟨i0, hi, hz0, hz1, hz2⟩ := info_parts Try.info5
  have hi' := Lib.hid hi; clear hi
  go_enter Try.func4, Try.ntmps4
  go_wp2_with (go_at_call 9; refine (awake_any _).mono ?_; rintro e w1 ⟨rfl, hb⟩)
  replace hK := hK.below hb (Nat.le_refl _)
  replace hB := hB.below hb (Nat.le_refl _)
  have s1 := hb.size
  go_wp2_with fail
  refine (new_yes _ _ _ key _ hK h1 (by omega)).mono ?_
  rintro e w2 ⟨rfl, hC, hz⟩
  replace hK := hK.below hz (Nat.le_refl _)
  replace hB := hB.below hz (Nat.le_refl _)
  replace hb := hb.trans (hz.mono hb.size)
  have l1 := hC.lt
  clear hz
  go_wp2_with fail
  refine (copy_any _ _ _ key _ hK).mono ?_
  rintro e w3 ⟨v3, rfl, ho, hz⟩
  have hK3 := hK.below hz (Nat.le_refl _)
  have s3 := hz.size
  go_wp2_with (at_builtin; go_must (refine wp_appB rfl _ _ 22 rfl w2.heap.size 5 i0 _ 1 Try.underlying22 hi'.out hz0 hz1 hz2 rfl _ n1 _ rfl ho a1 n1 c1 key rfl hK3 ?c3 ?c4 s3 ?_))
  case c3 => unfold maxLen; omega
  case c4 => omega
  intro v4 w4 ho4 hg4
  replace hz := below_grown hz ho hg4 s3
  have s34 := hz.size
  clear ho hg4 hK3 hK
  replace hB := hB.below hz (Nat.le_refl _)
  replace hC := hC.below hz hC.lt
  replace hb := hb.trans (hz.mono hb.size)
  clear hz
  obtain ⟨a4, c4, rfl, hKK⟩ := Bts.of_own (l := key ++ key) (own_congr ho4 rfl (by simp)) (by omega)
  have s4 := hb.size
  go_wp2_with fail
  refine (new_yes _ _ _ (key ++ key) _ hKK (by omega) (by omega)).mono ?_
  rintro e w5 ⟨rfl, hD, hz⟩
  replace hB := hB.below hz (Nat.le_refl _)
  replace hC := hC.below hz hC.lt
  replace hb := hb.trans (hz.mono hb.size)
  have l4 := hC.lt
  have l5 := hD.lt
  rw [newC_again key (by omega)] at hD
  clear hz hKK ho4
  go_wp2_with fail
  refine (Xor_any _ _ _ _ _ _ l hC hB (neB'.out _ s1) (by show 0 + n2 < _; omega) (by show 0 < _; decide)).mono ?_
  rintro e w6 ⟨rfl, ho6, hC6, hz⟩
  replace hB := hB.grown hz (neB'.out _ s1)
  replace hD := hD.grown hz (by simp; omega)
  replace hb := below_grow hb hz hb.size s1
  have l6 := hD.lt
  clear hz hC
  go_wp2_with fail
  refine (Xor_any _ _ _ _ _ _ l hD hB (neB'.out _ s4) (by show 0 + n2 < _; omega) (by show 0 < _; decide)).mono ?_
  rintro e w7 ⟨rfl, ho7, hD7, hz⟩
  replace ho6 := own_grown ho6 hz l5
  replace hb := below_grow hb hz hb.size s4
  clear hz
  have hB6 := own_bts ho6 (by omega)
  have hB7 := own_bts ho7 (by omega)
  clear ho6 ho7
  go_wp2_with fail
  refine (same_any _ _ _ _ _ _ _ _ _ hB6 hB7).mono ?_
  rintro e w8 ⟨rfl, hz⟩
  replace hb := hb.trans (hz.mono hb.size)
  have hd : decide ((newC key).xor l = (newC key).xor l) = true := decide_eq_true rfl
  have hd' := Lib.hid hd; clear hd
  go_wp2_with fail
  go_ret
  exact ⟨ret_bool hd'.out, hb⟩
end Go.Proofs.Ytokfophpjkglmaa
