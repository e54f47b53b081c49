/-
  The walk of the statement Rc4Back. No conditions.
-/
import Derived.Test.YtokfophpjkglmaaRc4Laws
namespace Go.Proofs.Ytokfophpjkglmaa
open Go.RowKit

theorem back_out (a1 a2 : Option Addr) (n1 n2 c1 c2 : Nat) (cut : Int) (w : World) (h : n1 = 0 ∨ 256 < n1 ∨ 2000 < n2) :
    Calls Try.prog 3 #[.slice a1 n1 c1, .slice a2 n2 c2, .int .i64 cut] w fun e w' => e = .returned (.bool true) ∧ Below w.heap.size w w' := by
  by_cases h1 : n1 = 0
  · subst h1
    go_enter Try.func3, Try.ntmps3
    go_wp2_with (go_at_call 9; refine (awake_any _).mono ?_; rintro e w1 ⟨rfl, hb⟩)
    go_ret
    exact ⟨rfl, hb⟩
  · have e1 : ((n1 : Int) == 0) = false := by simp; omega
    by_cases h2 : 256 < n1
    · go_enter Try.func3, Try.ntmps3
      go_wp2_with (go_at_call 9; refine (awake_any _).mono ?_; rintro e w1 ⟨rfl, hb⟩)
      go_ret
      exact ⟨rfl, hb⟩
    · have h3 : 2000 < n2 := by omega
      go_enter Try.func3, Try.ntmps3
      go_wp2_with (go_at_call 9; refine (awake_any _).mono ?_; rintro e w1 ⟨rfl, hb⟩)
      go_ret
      exact ⟨rfl, hb⟩

/-- where the row is cut -/
theorem cut_in (n : Nat) (cut : Int) (hn : n ≤ 2000) : ∃ k : Nat, k ≤ n ∧ (cut.tmod ((n : Int) + 1) + (n : Int) + 1).tmod ((n : Int) + 1) = (k : Int) ∧ -2001 ≤ cut.tmod ((n : Int) + 1) ∧ cut.tmod ((n : Int) + 1) ≤ 2001 ∧ 0 ≤ cut.tmod ((n : Int) + 1) + (n : Int) + 1 := by
  have h1 : -((n : Int) + 1) < cut.tmod ((n : Int) + 1) := by
    rcases Int.le_total 0 cut with h | h
    · have := Int.tmod_nonneg ((n : Int) + 1) h; omega
    · have e : cut.tmod ((n : Int) + 1) = -((-cut).tmod ((n : Int) + 1)) := by rw [Int.neg_tmod]; omega
      have := Int.tmod_lt_of_pos (-cut) (show (0 : Int) < (n : Int) + 1 by omega)
      omega
  have h2 : cut.tmod ((n : Int) + 1) < (n : Int) + 1 := Int.tmod_lt_of_pos cut (by omega)
  generalize cut.tmod ((n : Int) + 1) = t at *
  have h3 : 0 ≤ t + (n : Int) + 1 := by omega
  refine ⟨((t + (n : Int) + 1).tmod ((n : Int) + 1)).toNat, ?_, ?_, by omega, by omega, h3⟩
  · rw [Int.tmod_eq_emod_of_nonneg h3]
    have := Int.emod_lt_of_pos (t + (n : Int) + 1) (show (0 : Int) < (n : Int) + 1 by omega)
    have := Int.emod_nonneg (t + (n : Int) + 1) (show ((n : Int) + 1) ≠ 0 by omega)
    omega
  · rw [Int.tmod_eq_emod_of_nonneg h3]
    have := Int.emod_nonneg (t + (n : Int) + 1) (show ((n : Int) + 1) ≠ 0 by omega)
    omega
theorem neDrop {n c b : Nat} {a : Option Addr} (h : 0 < n → ∀ x, a = some x → x.block ≠ b) (k : Nat) (hk : k ≤ n) : 0 < n - k → ∀ x, (if c = k then a else a.map (·.add k)) = some x → x.block ≠ b := by
  intro h0 x hx
  split at hx
  · exact h (by omega) x hx
  · cases a with
    | none => simp at hx
    | some y =>
      simp at hx
      subst hx
      have := h (by omega) y rfl
      unfold Addr.add
      split <;> simpa using this
set_option maxHeartbeats 1000000 in
theorem back_in (a1 a2 : Option Addr) (n1 n2 c1 c2 : Nat) (cut : Int) (key l : List UInt8) (w : World) (hK : Bts w a1 n1 c1 key) (hB : Bts w a2 n2 c2 l) (h1 : 1 ≤ n1) (h2 : n1 ≤ 256) (h3 : n2 ≤ 2000) :
    Calls Try.prog 3 #[.slice a1 n1 c1, .slice a2 n2 c2, .int .i64 cut] w fun e w' => e = .returned (.bool true) ∧ Below w.heap.size w w' := by
  have e1 : ((n1 : Int) == 0) = false := by simp; omega
  have neB := fun (b : Nat) (hb : w.heap.size ≤ b) => hB.ne hb
  have ltB := fun (b : Nat) (hb : w.heap.size ≤ b) (h0 : 0 < n2) (x : Addr) (hx : a2 = some x) => Nat.lt_of_lt_of_le (hB.blk h0 x hx) hb
  have ltB' := Lib.hid ltB; clear ltB
  have neB' := Lib.hid neB; clear neB
  have hkl := hK.len
  have hkc := hK.cap
  have hbc := hB.cap
  have hbm := hB.most
  have hbl := hB.len
  obtain ⟨i0, hi, hz0, hz1, hz2⟩ := info_parts Try.info5
  have hi' := Lib.hid hi; clear hi
  obtain ⟨k, hk, ek, et1, et2, et3⟩ := cut_in n2 cut h3
  have e3 : ((n2 : Int) + 1 == 0) = false := by simp; omega
  have ek2 := ek
  rw [Int.tmod_eq_emod_of_nonneg et3] at ek2
  go_enter Try.func3, Try.ntmps3
  go_wp2_with (go_at_call 9; refine (awake_any _).mono ?_; rintro e w1 ⟨rfl, hb⟩)
  replace hK := hK.below hb (Nat.le_refl _)
  replace hB := hB.below hb (Nat.le_refl _)
  have s1 := hb.size
  go_wp2_with fail
  refine (new_yes _ _ _ key _ hK h1 h2).mono ?_
  rintro e w2 ⟨rfl, hX, hz⟩
  replace hK := hK.below hz (Nat.le_refl _)
  replace hB := hB.below hz (Nat.le_refl _)
  replace hb := hb.trans (hz.mono hb.size)
  have lx := hX.lt
  clear hz
  go_wp2_with fail
  refine (new_yes _ _ _ key _ hK h1 h2).mono ?_
  rintro e w3 ⟨rfl, hY, hz⟩
  replace hX := hX.below hz hX.lt
  replace hK := hK.below hz (Nat.le_refl _)
  replace hB := hB.below hz (Nat.le_refl _)
  replace hb := hb.trans (hz.mono hb.size)
  have ly := hY.lt
  clear hz
  go_wp2_with fail
  refine (new_yes _ _ _ key _ hK h1 h2).mono ?_
  rintro e w4 ⟨rfl, hZ, hz⟩
  replace hX := hX.below hz hX.lt
  replace hY := hY.below hz hY.lt
  replace hK := hK.below hz (Nat.le_refl _)
  replace hB := hB.below hz (Nat.le_refl _)
  replace hb := hb.trans (hz.mono hb.size)
  have lz := hZ.lt
  clear hz
  clear hK
  go_wp2_with fail
  refine (Xor_any _ _ _ _ _ _ l hX hB (neB'.out _ s1) (by show 0 + n2 < _; omega) (by show 0 < _; decide)).mono ?_
  rintro e w5 ⟨rfl, hoA, hX5, hz⟩
  clear hX
  replace hB := hB.grown hz (neB'.out _ s1)
  replace hY := hY.grown hz (by simp; omega)
  replace hZ := hZ.grown hz (by simp; omega)
  replace hb := below_grow hb hz hb.size s1
  have l5 : w4.heap.size < w5.heap.size := (hoA.lt _ rfl).2
  clear hz hX5
  have hA := own_bts hoA (by omega)
  have hTk := hB.take hk
  have hDr := hB.drop hk
  have hst := fun w => run_take (P := Try.prog) Try.underlying22 hi'.out a2 n2 c2 k (by omega) w
  have hsl := fun w => run_sub (P := Try.prog) Try.underlying22 hi'.out hz1 a2 n2 c2 k hk w
  have neD := fun (b : Nat) (hb : w.heap.size ≤ b) => neDrop (c := c2) (neB'.out b hb) k hk
  have neD' := Lib.hid neD; clear neD
  generalize (if c2 = k then a2 else a2.map (·.add k)) = a3 at *
  go_wp2_with fail
  have hmx : k + (n2 - k) ≤ maxLen := by unfold maxLen; omega
  have hby : (k + (n2 - k)) * 1 ≤ 140737488355328 := by omega
  have hZ5 := hZ.grown (grown_drew w5 none) (by simp)
  have hTk5 := hTk.drew
  have hDr5 := hDr.drew
  have q6 := Xor_any w3.heap.size (newC key) w5.drew a2 k c2 (l.take k) hZ5 hTk5 (fun h0 => neB'.out _ (by omega) (by omega)) (by show 0 + k < _; omega) (by show 0 < _; decide)
  have q6' := Lib.hid q6; clear q6
  go_region_held3 (fun _ => True) (exact trivial) (first | (go_at_call_of 11 (Value.slice a2 k c2); refine q6'.out.mono ?_; rintro e w6 ⟨rfl, ho6, hZ6, hg6⟩; have hD6 := hDr5.grown hg6 (neD'.out _ (by omega)); have q7 := Lib.hid (Xor_any w3.heap.size ((newC key).after k) w6 a3 (n2 - k) (c2 - k) (l.drop k) hZ6 hD6 (neD'.out _ (by omega)) (by rw [Cph.after_off]; show 0 + k + _ < _; omega) (by rw [Cph.after_id]; show 0 < _; decide))) | (go_at_call_of 11 (Value.slice a3 (n2 - k) (c2 - k)); refine q7.out.mono ?_; rintro e w7 ⟨rfl, ho7, hZ7, hg7⟩; have hap := own_grown ho6 hg7 (by show _ < w5.heap.size; omega); have hbp := own_bts ho7 (by omega); have hls := Nat.le_trans hg6.size hg7.size; change w5.heap.size ≤ w7.heap.size at hls) | (refine step_appB rfl _ _ 22 rfl w5.heap.size 5 i0 _ 1 Try.underlying22 hi'.out hz0 hz1 hz2 rfl _ _ _ rfl hap w6.heap.size 0 (n2 - k) (n2 - k) _ rfl hbp hmx hby hls ?_; intro v8 w8 ho8 hg8; have hz8 := (Below.refl w5.heap.size w7).grown hg8 hls (fun k hk => (hap.lt k hk).1); clear hg8))
  have hxy : (newC key).xor (l.take k) ++ ((newC key).after k).xor (l.drop k) = (newC key).xor l := by
    have := Cph.xor_append (l.take k) (l.drop k) (newC key)
    rw [List.take_append_drop, List.length_take, Nat.min_eq_left (by omega)] at this
    exact this.symm
  replace ho8 := own_congr (n' := n2) (xs' := ((newC key).xor l).map bv) ho8 (by omega) (by rw [← List.map_append, hxy])
  replace hA := ((hA.drew.grown hg6 (fun _ => own_ne hoA (by omega))).grown hg7 (fun _ => own_ne hoA (by omega))).below2 hz8 (fun _ x hx => by cases hx; exact l5)
  replace hY := ((hY.grown (grown_drew w5 none) (by simp)).grown hg6 (by simp; omega)).grown hg7 (by simp; omega)
  replace hY := hY.below hz8 (by omega)
  replace hB := ((hB.drew.grown hg6 (neB'.out _ (by omega))).grown hg7 (neB'.out _ (by omega))).below2 hz8 (ltB'.out _ hb.size)
  have hb7 := below_grow (below_grow hb.drew hg6 hb.size (by omega)) hg7 (Nat.le_trans hb.size hg6.size) (by omega)
  have hb8 := hb7.trans (hz8.mono hb.size)
  obtain ⟨a8, c8, rfl, hP⟩ := Bts.of_own ho8 (by omega)
  have hPlt := fun (h0 : 0 < n2) => hP.blk h0
  have hPne := own_ne ho8 (b := w2.heap.size) (by omega)
  have hAne : ∀ x, (some (⟨w4.heap.size, 0, none⟩ : Addr)) = some x → x.block ≠ w2.heap.size := by intro x hx; cases hx; simp; omega
  have hAne' := Lib.hid hAne; clear hAne
  have hPne' := Lib.hid hPne; clear hPne hPlt
  have l8 := hb8.size
  clear hoA hZ hZ5 hTk5 hDr5 q6' ho6 hZ6 hg6 hD6 q7 ho7 hZ7 hg7 hap hbp hls ho8 hz8 hb hb7 hst hsl hDr hTk hxy
  go_wp2_with fail
  refine (Xor_any _ _ _ _ _ _ _ hY hA (fun _ => hAne'.out) (by show 0 + n2 < _; omega) (by show 0 < _; decide)).mono ?_
  rintro e w9 ⟨rfl, ho9, hY9, hz⟩
  rw [Cph.xor_xor _ _ rfl] at ho9
  replace hA := hA.grown hz (fun _ => hAne'.out)
  replace hP := hP.grown hz (fun _ => hPne'.out)
  replace hB := hB.grown hz (neB'.out _ (by omega))
  replace hb := below_grow hb8 hz hb8.size (by omega)
  have h9 := own_bts ho9 (by omega)
  clear hz hY hY9
  go_wp2_with fail
  refine (same_any _ _ _ _ _ _ _ _ _ h9 hB).mono ?_
  rintro e w10 ⟨rfl, hz⟩
  replace hA := hA.below hz (Nat.le_refl _)
  replace hP := hP.below hz (Nat.le_refl _)
  replace hb := hb.trans (hz.mono hb.size)
  clear hz h9 ho9
  have hd : decide (l = l) = true := decide_eq_true rfl
  go_wp2_with fail
  refine (same_any _ _ _ _ _ _ _ _ _ hP hA).mono ?_
  rintro e w11 ⟨rfl, hz⟩
  replace hb := hb.trans (hz.mono hb.size)
  have hd2 : decide ((newC key).xor l = (newC key).xor l) = true := decide_eq_true rfl
  go_wp2_with fail
  go_ret
  exact ⟨rfl, hb⟩
end Go.Proofs.Ytokfophpjkglmaa
