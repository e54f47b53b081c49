/-
  Chapter 23's examples: MultiKnown. No conditions.
-/
import Derived.Test.YtglmlhbchfgliaaMuAw
namespace Go.Proofs.Ytglmlhbchfgliaa
open Go.RowKit Go.Maps
theorem bts_nil (w : World) : Bts w none 0 0 [] := ⟨rfl, Nat.le_refl _, by decide, by decide, fun _ => rfl, fun j hj => by omega⟩
set_option maxRecDepth 100000 in
theorem ex_cut0 : cutP [] 2 0 true = ([], 0, 1) := by kernel_rfl
set_option maxRecDepth 100000 in
theorem ex_cut17 : cutP (List.replicate 17 0) 1 0 true = ([], 0, 3) := by kernel_rfl
theorem bts17 (w : World) : Bts (w.alloc (.cells (mkB 17) 5)) (some ⟨w.heap.size, 0, none⟩) 17 17 (List.replicate 17 0) := by
  rw [mkB_map]
  exact Bts.new (w := w) (List.replicate 17 0) (by decide)
theorem btsA (w : World) : Bts (w.alloc (.cells #[.int .u8 128, .int .u8 0, .int .u8 1, .int .u8 2] 5)) (some ⟨w.heap.size, 0, none⟩) 4 4 [128, 0, 1, 2] := Bts.new (w := w) [128, 0, 1, 2] (by decide)
theorem btsB (w : World) : Bts (w.alloc (.cells #[.int .u8 64, .int .u8 1, .int .u8 3] 5)) (some ⟨w.heap.size, 0, none⟩) 3 3 [64, 1, 3] := Bts.new (w := w) [64, 1, 3] (by decide)
set_option maxRecDepth 100000 in
set_option maxHeartbeats 4000000 in
theorem known_any (w : World) : Calls Try.prog 3 #[] w fun e w' => e = .returned (.bool true) ∧ Below w.heap.size w w' := by
  go_enter Try.func3, Try.ntmps3
  have hb0 := fun W => below_alloc (Below.refl (World.heap W).size W) (.cells #[.int .u8 1, .int .u8 2, .int .u8 3] 5) (Nat.le_refl _)
  obtain ⟨i0, hi, hz0, hz1, hz2⟩ := info_parts Try.info5
  have hbx := fun W => below_alloc (Below.refl (World.heap W).size W) (.cells #[.int .u8 128, .int .u8 0, .int .u8 1, .int .u8 2] 5) (Nat.le_refl _)
  have hby := fun W => below_alloc (Below.refl (World.heap W).size W) (.cells #[.int .u8 64, .int .u8 1, .int .u8 3] 5) (Nat.le_refl _)
  have hmk := fun W => run_mkB (P := Try.prog) Try.underlying27 hi hz0 hz1 hz2 17 (by decide) W
  simp only [Int.cast_ofNat_Int] at hmk
  have hbk := fun W => below_alloc (Below.refl (World.heap W).size W) (.cells (mkB 17) 5) (Nat.le_refl _)
  go_wp2_with (first | (go_at_call 12; refine (awake_any w).mono ?_; rintro e wa ⟨rfl, hba⟩) | (go_at_call 13; (with_reducible show Calls _ _ #[.slice (some _) 3 3, _, _, _] _ _); refine (cut_any 2 0 true (bts123 wa) (by decide) (by decide)).mono ?_; rintro e w1 ⟨v, rfl, hF, hb1⟩; rw [ex_cut] at hF ⊢; obtain ⟨av, cv, rfl⟩ := hF.slice) | (go_at_call 14; (with_reducible show Calls _ _ #[.int .i64 1, _, _] _ _); refine (new_any 1 100 true (by decide) (by decide) (by decide) (by decide)).mono ?_; rintro e w2 ⟨vl, rfl, hJ, hb2⟩; have hF2 := hF.below hb2) | (go_at_call 14; (with_reducible show Calls _ _ #[.int .i64 0, _, _] _ _); refine (new_no 0 1 true (by decide)).mono ?_; rintro e w' ⟨rfl, rfl⟩) | (go_at_call 13; (with_reducible show Calls _ _ #[.slice none _ _, _, _, _] _ _); refine (cut_any 2 0 true (bts_nil w2) (by decide) (by decide)).mono ?_; rintro e w3 ⟨v3, rfl, hF3, hb3⟩; rw [ex_cut0] at hF3 ⊢; obtain ⟨a3, c3, rfl⟩ := hF3.slice) | (go_at_call 13; (with_reducible show Calls _ _ #[.slice (some _) 17 17, _, _, _] _ _); refine (cut_any 1 0 true (bts17 w3) (by decide) (by decide)).mono ?_; rintro e w4 ⟨v4, rfl, hF4, hb4⟩; rw [ex_cut17] at hF4 ⊢; obtain ⟨a4, c4, rfl⟩ := hF4.slice; have hb34 := hb3.trans (((hbk w3).trans (hb4.mono (hbk w3).size)).mono hb3.size); have hJ4 := hJ.below hb34; have hF24 := hF2.below hb34; obtain ⟨g, xa, xc, ya, yc, rfl, c1, B1, c2, B2⟩ := ex_rows hF24) | (go_at_call 15; (with_reducible show Calls _ _ _ w4 _); refine (add_any 0 hJ4 (newJ_rest 1 100 true (by decide) (by decide)) B1 (by decide)).mono ?_; rintro e w5 ⟨v5, L5, e5, t5, rfl, hR5, hJ5, hF5, hb5⟩; obtain ⟨rfl, rfl, rfl⟩ := hR5.one ex_add1; obtain ⟨a5, q5, rfl⟩ := hF5.slice; have hF25 := hF24.jo hJ4 hb5; obtain ⟨g5, xa5, xc5, ya5, yc5, eg, c15, B15, c25, B25⟩ := ex_rows hF25; cases eg; have hr5 := (hR5.rest (newJ_rest 1 100 true (by decide) (by decide)) (by decide)).1) | (go_at_call 15; (with_reducible show Calls _ _ _ w5 _); refine (add_any 0 hJ5 hr5 B25 (by decide)).mono ?_; rintro e w6 ⟨v6, L6, e6, t6, rfl, hR6, hJ6, hF6, hb6⟩; obtain ⟨rfl, rfl, rfl⟩ := hR6.one ex_add2; obtain ⟨a6, q6, rfl⟩ := hF6.slice; have hF26 := hF25.jo hJ5 hb6; obtain ⟨g6, xa6, xc6, ya6, yc6, eg, c16, B16, c26, B26⟩ := ex_rows hF26; cases eg; have hr6 := (hR6.rest hr5 (by decide)).1) | (go_at_call 15; (with_reducible show Calls _ _ _ w6 _); refine (add_any 0 hJ6 hr6 B16 (by decide)).mono ?_; rintro e w7 ⟨v7, L7, e7, t7, rfl, hR7, hJ7, hF7, hb7⟩; obtain ⟨rfl, rfl, rfl⟩ := hR7.one ex_add3; obtain ⟨a7, q7, rfl⟩ := hF7.slice; have hF27 := hF26.jo hJ6 hb7; obtain ⟨g7, xa7, xc7, ya7, yc7, eg, c17, B17, c27, B27⟩ := ex_rows hF27; cases eg) | (go_at_call 16; (with_reducible show Calls _ _ #[.slice _ 4 _, _] _ _); refine (same_any _ _ _ _ _ _ _ _ _ (B17.below (hbx w7) (Nat.le_refl _)) (btsA w7)).mono ?_; rintro e w8 ⟨rfl, hb8⟩; rw [show decide (exA = [128, 0, 1, 2]) = true from by decide]; have hb78 := (hbx w7).trans (hb8.mono (hbx w7).size); have c28 := (hF27.below hb78); obtain ⟨g8, xa8, xc8, ya8, yc8, eg, c18, B18, c28, B28⟩ := ex_rows c28; cases eg) | (go_at_call 16; (with_reducible show Calls _ _ #[.slice _ 3 _, _] _ _); refine (same_any _ _ _ _ _ _ _ _ _ (B28.below (hby w8) (Nat.le_refl _)) (btsB w8)).mono ?_; rintro e w9 ⟨rfl, hb9⟩; rw [show decide (exB = [64, 1, 3]) = true from by decide]))
  go_ret
  have H1 := hba.trans (((hb0 wa).trans (hb1.mono (hb0 wa).size)).mono hba.size)
  have H2 := H1.trans (hb2.mono H1.size)
  have H4 := H2.trans (hb34.mono H2.size)
  have H5 := hJ4.under H4 H1.size hb5
  have H6 := hJ5.under H5 H1.size hb6
  have H7 := hJ6.under H6 H1.size hb7
  have H8 := H7.trans (hb78.mono H7.size)
  have H9 := H8.trans ((hby w8).mono H8.size)
  exact ⟨rfl, H9.trans (hb9.mono H9.size)⟩
end Go.Proofs.Ytglmlhbchfgliaa
