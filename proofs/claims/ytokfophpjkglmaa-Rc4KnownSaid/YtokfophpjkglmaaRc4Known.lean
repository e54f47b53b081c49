/-
  The walk of the statement Rc4Known. No conditions.
-/
import Derived.Test.YtokfophpjkglmaaRc4Laws
namespace Go.Proofs.Ytokfophpjkglmaa
open Go.RowKit
theorem key_known : (newC [75, 101, 121]).xor [80, 108, 97, 105, 110, 116, 101, 120, 116] = [0xbb, 0xf3, 0x16, 0xe8, 0xd9, 0x40, 0xaf, 0x0a, 0xd3] := by decide +kernel
theorem sym_known : (symC 1).xor [9, 9] = [31, 38] := by decide +kernel

set_option maxHeartbeats 1000000 in
theorem known_any (w : World) :
    Calls Try.prog 5 #[] w fun e w' => e = .returned (.bool true) ∧ Below w.heap.size w w' := by
  have kc := fun (w : World) (C : Array Value) (n c : Nat) => Lib.run_convert_bytes_const (P := Try.prog) w 22 5 C n c Try.underlying22 Try.underlying5
  have bl := fun (W : World) (l : List UInt8) (m : Nat × Nat) => below_alloc (Below.refl W.heap.size W) (.cells (l.map bv).toArray 5 m) (Nat.le_refl _)
  have bl' := Lib.hid bl; clear bl
  go_enter Try.func5, Try.ntmps5
  go_wp2_with (go_at_call 9; refine (awake_any _).mono ?_; rintro e w1 ⟨rfl, hb⟩)
  go_wp2_with fail
  have hN := Bts.new (w := w1) (e := 5) (m := (3, 4)) [75, 101, 121] (by decide)
  have hb0 := bl'.out w1 [75, 101, 121] (3, 4)
  change Calls _ _ _ (w1.alloc (.cells (([75, 101, 121] : List UInt8).map bv).toArray 5 (3, 4))) _
  have s0 := hb.size
  replace hb := hb.trans (hb0.mono hb.size)
  clear hb0
  have lN : w.heap.size < (w1.alloc (.cells (([75, 101, 121] : List UInt8).map bv).toArray 5 (3, 4))).heap.size := by rw [alloc_size]; omega
  generalize (w1.alloc (.cells (([75, 101, 121] : List UInt8).map bv).toArray 5 (3, 4))) = w2 at *
  refine (new_yes _ 3 3 [75, 101, 121] _ hN (by decide) (by decide)).mono ?_
  rintro e w3 ⟨rfl, hC, hz⟩
  replace hb := hb.trans (hz.mono hb.size)
  have lC := hC.lt
  clear hz hN
  go_wp2_with fail
  refine (new_no _ _ _ _ (.inl (by decide))).mono ?_
  rintro e w4 ⟨rfl, rfl⟩
  go_wp2_with fail
  refine (symbol_any 1 _).mono ?_
  rintro e w5 ⟨rfl, hS, hz⟩
  replace hC := hC.below hz hC.lt
  replace hb := hb.trans (hz.mono hb.size)
  have lS := hS.lt
  clear hz
  go_wp2_with fail
  have hN := Bts.new (w := w5) (e := 5) (m := (9, 10)) [80, 108, 97, 105, 110, 116, 101, 120, 116] (by decide)
  have hz := bl'.out w5 [80, 108, 97, 105, 110, 116, 101, 120, 116] (9, 10)
  change Calls _ _ _ (w5.alloc (.cells (([80, 108, 97, 105, 110, 116, 101, 120, 116] : List UInt8).map bv).toArray 5 (9, 10))) _
  generalize (w5.alloc (.cells (([80, 108, 97, 105, 110, 116, 101, 120, 116] : List UInt8).map bv).toArray 5 (9, 10))) = w6 at *
  replace hC := hC.below hz hC.lt
  replace hS := hS.below hz hS.lt
  replace hb := hb.trans (hz.mono hb.size)
  clear hz
  refine (Xor_any _ _ _ _ _ _ [80, 108, 97, 105, 110, 116, 101, 120, 116] hC hN (by intro _ x hx; cases hx; simp; omega) (by decide) (by decide)).mono ?_
  rintro e w7 ⟨rfl, ho, -, hz⟩
  replace hS := hS.grown hz (by simp; omega)
  have s1 := hb.size
  replace hb := below_grow hb hz hb.size (by omega)
  rw [key_known] at ho
  have hX := own_bts ho (by decide)
  clear hz hN ho hC
  go_wp2_with fail
  have hN := Bts.new (w := w7) (e := 5) (m := (0, 0)) [0xbb, 0xf3, 0x16, 0xe8, 0xd9, 0x40, 0xaf, 0x0a, 0xd3] (by decide)
  have hz := bl'.out w7 [0xbb, 0xf3, 0x16, 0xe8, 0xd9, 0x40, 0xaf, 0x0a, 0xd3] (0, 0)
  change Calls _ _ _ (w7.alloc (.cells (([0xbb, 0xf3, 0x16, 0xe8, 0xd9, 0x40, 0xaf, 0x0a, 0xd3] : List UInt8).map bv).toArray 5 (0, 0))) _
  generalize (w7.alloc (.cells (([0xbb, 0xf3, 0x16, 0xe8, 0xd9, 0x40, 0xaf, 0x0a, 0xd3] : List UInt8).map bv).toArray 5 (0, 0))) = w8 at *
  replace hX := hX.below hz (Nat.le_refl _)
  replace hS := hS.below hz hS.lt
  replace hb := hb.trans (hz.mono hb.size)
  clear hz
  refine (same_any _ _ _ _ _ _ _ _ _ hX hN).mono ?_
  rintro e w9 ⟨rfl, hz⟩
  replace hS := hS.below hz hS.lt
  replace hb := hb.trans (hz.mono hb.size)
  clear hz hX hN
  have hd : decide (([0xbb, 0xf3, 0x16, 0xe8, 0xd9, 0x40, 0xaf, 0x0a, 0xd3] : List UInt8) = [0xbb, 0xf3, 0x16, 0xe8, 0xd9, 0x40, 0xaf, 0x0a, 0xd3]) = true := decide_eq_true rfl
  go_wp2_with fail
  have hN := Bts.new (w := w9) (e := 5) (m := (0, 0)) [9, 9] (by decide)
  have hz := bl'.out w9 [9, 9] (0, 0)
  change Calls _ _ _ (w9.alloc (.cells (([9, 9] : List UInt8).map bv).toArray 5 (0, 0))) _
  have lS9 := hS.lt
  generalize (w9.alloc (.cells (([9, 9] : List UInt8).map bv).toArray 5 (0, 0))) = w10 at *
  replace hS := hS.below hz hS.lt
  replace hb := hb.trans (hz.mono hb.size)
  clear hz
  refine (Xor_any _ _ _ _ _ _ [9, 9] hS hN (by intro _ x hx; cases hx; simp; omega) (by decide) (by decide)).mono ?_
  rintro e w11 ⟨rfl, ho, -, hz⟩
  have s2 := hb.size
  replace hb := below_grow hb hz hb.size (by omega)
  rw [sym_known] at ho
  have hX := own_bts ho (by decide)
  clear hz hN ho hS
  go_wp2_with fail
  have hN := Bts.new (w := w11) (e := 5) (m := (0, 0)) [31, 38] (by decide)
  have hz := bl'.out w11 [31, 38] (0, 0)
  change Calls _ _ _ (w11.alloc (.cells (([31, 38] : List UInt8).map bv).toArray 5 (0, 0))) _
  generalize (w11.alloc (.cells (([31, 38] : List UInt8).map bv).toArray 5 (0, 0))) = w12 at *
  replace hX := hX.below hz (Nat.le_refl _)
  replace hb := hb.trans (hz.mono hb.size)
  clear hz
  refine (same_any _ _ _ _ _ _ _ _ _ hX hN).mono ?_
  rintro e w13 ⟨rfl, hz⟩
  replace hb := hb.trans (hz.mono hb.size)
  have hd2 : decide (([31, 38] : List UInt8) = [31, 38]) = true := decide_eq_true rfl
  go_wp2_with fail
  go_ret
  exact ⟨rfl, hb⟩
end Go.Proofs.Ytokfophpjkglmaa
