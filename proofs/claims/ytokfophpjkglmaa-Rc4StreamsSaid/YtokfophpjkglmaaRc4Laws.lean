/-
  The walks of the statements of layer 5. No conditions.
-/
import Derived.Test.YtokfophpjkglmaaRc4New
import Derived.Test.YtokfophpjkglmaaSame
namespace Go.Proofs.Ytokfophpjkglmaa
open Go.RowKit
theorem key_awake : (newC [75, 101, 121]).xor [80, 108] = [0xbb, 0xf3] := by decide +kernel

set_option maxHeartbeats 400000 in
theorem awake_any (w : World) :
    Calls Try.prog 9 #[] w fun e w' => e = .returned (.bool true) ∧ Below w.heap.size w w' := by
  have kc := fun (w : World) (C : Array Value) (n c : Nat) => Lib.run_convert_bytes_const (P := Try.prog) w 22 5 C n c Try.underlying22 Try.underlying5
  go_enter Try.func9, Try.ntmps9
  go_wp2_with fail
  have hN := Bts.new (w := w) (e := 5) (m := (3, 4)) [75, 101, 121] (by decide)
  refine (new_yes _ 3 3 [75, 101, 121] _ hN (by decide) (by decide)).mono ?_
  rintro e w1 ⟨rfl, hC1, hb1⟩
  rw [alloc_size] at hC1
  have hb1 : Below w.heap.size w w1 := (below_alloc (Below.refl _ _) _ (Nat.le_refl _)).trans (hb1.mono (by simp))
  have hlt := hC1.lt
  go_wp2_with fail
  have hX := Bts.new (w := w1) (e := 5) (m := (2, 3)) [80, 108] (by decide)
  have hC2 := hC1.below (below_alloc (Below.refl _ _) (.cells (([80, 108] : List UInt8).map bv).toArray 5 (2, 3)) (Nat.le_refl _)) hlt
  have hb2 := below_alloc hb1 (.cells (([80, 108] : List UInt8).map bv).toArray 5 (2, 3)) (Nat.le_refl _)
  change Calls _ _ _ (w1.alloc (.cells (([80, 108] : List UInt8).map bv).toArray 5 (2, 3))) _
  have hne : 0 < 2 → ∀ x, (some (⟨w1.heap.size, 0, none⟩ : Addr)) = some x → x.block ≠ w.heap.size + 1 := by intro _ x hx; cases hx; simp; omega
  have hlt2 : w.heap.size + 1 < (w1.alloc (.cells (([80, 108] : List UInt8).map bv).toArray 5 (2, 3))).heap.size := by simp; omega
  generalize (w1.alloc (.cells (([80, 108] : List UInt8).map bv).toArray 5 (2, 3))) = w2 at *
  refine (Xor_any _ _ _ _ _ _ [80, 108] hC2 hX hne (by decide) (by decide)).mono ?_
  rintro e w3 ⟨rfl, ho3, hC3, hg3⟩
  have hb3 := below_grow hb2 hg3 hb2.size (by omega)
  rw [key_awake] at ho3
  have hB3 := own_bts ho3 (by decide)
  go_wp2_with fail
  have hK := Bts.new (w := w3) (e := 5) (m := (0, 0)) [0xbb, 0xf3] (by decide)
  have hB4 := hB3.below (below_alloc (Below.refl _ _) (.cells (([0xbb, 0xf3] : List UInt8).map bv).toArray 5 (0, 0)) (Nat.le_refl _)) (Nat.le_refl _)
  have hC4 := hC3.below (below_alloc (Below.refl _ _) (.cells (([0xbb, 0xf3] : List UInt8).map bv).toArray 5 (0, 0)) (Nat.le_refl _)) hC3.lt
  have hb4 := below_alloc hb3 (.cells (([0xbb, 0xf3] : List UInt8).map bv).toArray 5 (0, 0)) (Nat.le_refl _)
  change Calls _ _ _ (w3.alloc (.cells (([0xbb, 0xf3] : List UInt8).map bv).toArray 5 (0, 0))) _
  generalize (w3.alloc (.cells (([0xbb, 0xf3] : List UInt8).map bv).toArray 5 (0, 0))) = w4 at *
  refine (same_any _ _ _ _ _ _ [0xbb, 0xf3] [0xbb, 0xf3] _ hB4 hK).mono ?_
  rintro e w5 ⟨rfl, hb5⟩
  have hC5 := hC4.below hb5 hC4.lt
  have hb5 := hb4.trans (hb5.mono hb4.size)
  have hdec : decide (([0xbb, 0xf3] : List UInt8) = [0xbb, 0xf3]) = true := rfl
  go_wp2_with (go_at_call 19; refine (offset_any _ _ _ hC5).mono ?_; rintro e w' ⟨rfl, rfl⟩)
  go_ret
  exact ⟨ret_bool rfl, hb5⟩
end Go.Proofs.Ytokfophpjkglmaa
