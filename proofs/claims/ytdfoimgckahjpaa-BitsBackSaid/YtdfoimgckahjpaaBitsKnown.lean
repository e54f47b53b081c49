/-
  The walk of the statement BitsKnown. No conditions.
-/
import Derived.Test.YtdfoimgckahjpaaBitsAw
namespace Go.Proofs.Ytdfoimgckahjpaa
open Go.RowKit
theorem Wr.grown {w w' : World} {S b k : Nat} {v : Value} {high : Bool} {fs : List Bool} (h : Wr w S b v high fs) (hg : w.grownBy w' (some k)) (hb : b ≠ k) (hv : v.ownBlock ≠ some k) : Wr w' S b v high fs :=
  h.but (ButOf.of_grown (K := fun i => i = k) hg (fun i hi => (Option.some.inj hi).symm)) hb (fun i hi e => hv (by rw [hi, e]))
theorem Wr.vlt {w : World} {S b : Nat} {v : Value} {high : Bool} {fs : List Bool} (h : Wr w S b v high fs) {k : Nat} (hk : w.heap.size ≤ k) : v.ownBlock ≠ some k := fun e => by have := (h.own.lt k e).2; omega
theorem kn_bytes : packB false ([] ++ numBits false 5 3 3 ++ numBits false 1 2 2) = [13] := by decide +kernel
theorem kn_num : num true (fun j => bitAt true [168] (0 + 3 + j)) 2 2 = 1 := by decide +kernel
theorem kn_len : ([] ++ numBits false 5 3 3 ++ numBits false 1 2 2).length = 5 := by decide +kernel
set_option maxHeartbeats 400000 in
theorem known_any (w : World) :
    Calls Try.prog 5 #[] w fun e w' => e = .returned (.bool true) ∧ Below w.heap.size w w' := by
  go_enter Try.func5, Try.ntmps5
  go_wp2_with (go_at_call 15; refine (awake_any _).mono ?_; rintro e w0 ⟨rfl, hb0⟩)
  refine (new_writer false w0).mono ?_
  rintro e w1 ⟨rfl, hW1, hb1'⟩
  have hb1 := hb0.trans (hb1'.mono hb0.size)
  have s0 := hb0.size
  go_wp2_with fail
  refine (put_yes hW1 5 3 (by decide) (by decide) hb1'.size (by decide)).mono ?_
  rintro e w2 ⟨v2, rfl, hW2, hB2, -⟩
  have hb2 := below_frame hb1 hB2 (fun k _ hk => Nat.le_trans s0 (hW1.foot (Nat.le_refl _) k hk).1) hb1.size
  have s2 := hB2.size
  have s1 := hb1'.size
  clear hW1 hB2 hb1'
  go_wp2_with fail
  refine (put_yes hW2 1 2 (by decide) (by decide) (by omega) (by decide)).mono ?_
  rintro e w3 ⟨v3, rfl, hW3, hB3, -⟩
  have hb3 := below_frame hb2 hB3 (fun k _ hk => Nat.le_trans s0 (hW2.foot (Nat.le_refl _) k hk).1) hb2.size
  have s3 := hB3.size
  clear hW2 hB3
  go_wp2_with fail
  have hwb := wbytes_any hW3
  rw [kn_bytes] at hwb
  refine hwb.mono ?_
  rintro e w4 ⟨a4, c4, rfl, ho4, hb4'⟩
  have hB4 := own_bts ho4 (by decide)
  have hW4 := hW3.below hb4'
  have hb4 := hb3.trans (hb4'.mono hb3.size)
  have s4 := hb4'.size
  clear hwb hW3 ho4 hb4'
  go_wp2_with fail
  have al := below_alloc (Below.refl w4.heap.size w4) (.cells (([168] : List UInt8).map bv).toArray 5 (0, 0)) (Nat.le_refl _)
  have hN := Bts.new (w := w4) (e := 5) (m := (0, 0)) [168] (by decide)
  have hW5 := hW4.below al
  have hB5 := hB4.below al (Nat.le_refl _)
  have hb5 := hb4.trans (al.mono hb4.size)
  have s5 : w4.heap.size ≤ (w4.alloc (.cells (([168] : List UInt8).map bv).toArray 5 (0, 0))).heap.size := by simp
  change Calls _ _ _ (w4.alloc (.cells (([168] : List UInt8).map bv).toArray 5 (0, 0))) _
  clear hW4 hB4 al
  generalize (w4.alloc (.cells (([168] : List UInt8).map bv).toArray 5 (0, 0))) = w5 at *
  refine (new_reader _ _ _ [168] true _ hN (by decide)).mono ?_
  rintro e w6 ⟨b6, a6, c6, rfl, hR6, hl6, -, hb6'⟩
  have hW6 := hW5.below hb6'
  have hB6 := hB5.below hb6' (Nat.le_refl _)
  have hb6 := hb5.trans (hb6'.mono hb5.size)
  have n1 := Nat.ne_of_lt (Nat.lt_of_lt_of_le hW5.lt hl6)
  have n2 := hW5.vlt hl6
  have n3 := hB5.ne hl6
  have s6 := hb6'.size
  clear hW5 hB5 hb6' hN
  go_wp2_with fail
  refine (take_yes hR6 3 (by decide) (by decide)).mono ?_
  rintro e w7 ⟨rfl, hR7, hg7⟩
  have hW7 := hW6.grown hg7 n1 n2
  have hB7 := hB6.grown hg7 n3
  have hb7 := below_grow hb6 hg7 hb6.size (by omega)
  clear hW6 hB6 hR6 hg7
  go_wp2_with fail
  have htk := take_yes hR7 2 (by decide) (by decide)
  rw [kn_num] at htk
  refine htk.mono ?_
  rintro e w8 ⟨rfl, hR8, hg8⟩
  have hW8 := hW7.grown hg8 n1 n2
  have hB8 := hB7.grown hg8 n3
  have hb8 := below_grow hb7 hg8 hb7.size (by omega)
  clear hW7 hB7 hR7 hg8 htk
  go_wp2_with fail
  refine (take_no hR8 9 (.inr (.inr (by decide)))).mono ?_
  rintro e w9 ⟨rfl, m, rfl⟩
  have hd := below_drewN (Below.refl w8.heap.size w8) m
  have hW9 := hW8.below hd
  have hB9 := hB8.below hd (Nat.le_refl _)
  have hR9 := hR8.below hd (Nat.le_refl _)
  have hb9 := hb8.trans (hd.mono hb8.size)
  clear hW8 hB8 hR8 hd
  generalize w8.drewN m = w9 at *
  obtain ⟨ba, oa, rfl, hcl⟩ := hB9.addr (by decide)
  have g0 : w9.cell? ⟨ba, oa, none⟩ = some (.int .u8 13) := hcl 0 (by decide)
  clear hcl
  go_wp2_with fail
  refine (left_any hR9).mono ?_
  rintro e w10 ⟨rfl, m, rfl⟩
  have hd := below_drewN (Below.refl w9.heap.size w9) m
  have hW10 := hW9.below hd
  have hb10 := hb9.trans (hd.mono hb9.size)
  clear g0 hB9 hR9 hW9 hd
  generalize w9.drewN m = w10 at *
  have hl := len_any hW10
  rw [kn_len] at hl
  go_wp2_with fail
  refine hl.mono ?_
  rintro e w11 ⟨rfl, rfl⟩
  go_wp2_with fail
  refine (put_no hW10 1 2 (.inr (.inr (.inr (by decide)))) (by decide)).mono ?_
  rintro e w11 ⟨rfl, rfl⟩
  go_wp2_with fail
  refine (put_no hW10 33 0 (.inr (.inl (by decide))) (by decide)).mono ?_
  rintro e w11 ⟨rfl, rfl⟩
  go_wp2_with fail
  go_ret
  exact ⟨ret_bool (by simp), hb10⟩
end Go.Proofs.Ytdfoimgckahjpaa
