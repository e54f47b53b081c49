/-
  The walk of the statement BitsAligns. No conditions.
-/
import Derived.Test.YtdfoimgckahjpaaBitsParts
namespace Go.Proofs.Ytdfoimgckahjpaa
open Go.RowKit
theorem packB_append8 (high : Bool) (X Y : List Bool) (h8 : X.length % 8 = 0) : packB high (X ++ Y) = packB high X ++ packB high Y := by
  apply bytes_ext (high := high)
  · rw [List.length_append, packB_length, packB_length, packB_length, List.length_append]; omega
  · intro i _
    rw [bitAt_packB, bitAt_append, packB_length, getD_app]
    have e : 8 * ((X.length + 7) / 8) = X.length := by omega
    rw [e]
    split
    · rw [bitAt_packB]
    · rw [bitAt_packB]
theorem aligned_bytes (high : Bool) (A Y : List Bool) (l : List UInt8) :
    ((packB high (fill8 A ++ unpackB high l ++ Y)).take ((A.length + 7) / 8 + l.length)).drop ((A.length + 7) / 8) = l := by
  have h1 : (fill8 A ++ unpackB high l).length % 8 = 0 := by rw [List.length_append, fill8_length, unpackB_length]; omega
  have h2 := packB_length high A
  rw [packB_append8 _ _ _ h1, packB_add, List.take_append_of_le_length (by rw [List.length_append, h2]; exact Nat.le_refl _), List.take_of_length_le (by rw [List.length_append, h2]; exact Nat.le_refl _), ← h2, List.drop_left]
theorem aligns_len (A : List Bool) (high : Bool) (l : List UInt8) : (fill8 A ++ unpackB high l).length = 8 * ((A.length + 7) / 8 + l.length) := by
  rw [List.length_append, fill8_length, unpackB_length]; omega
theorem aligns_num (high : Bool) (A : List Bool) (l : List UInt8) :
    num high (fun j => bitAt high (packB high (fill8 A ++ unpackB high l ++ numBits high 1 1 1)) (8 * ((A.length + 7) / 8 + l.length) + j)) 1 1 = 1 := by
  have := num_read high (fill8 A ++ unpackB high l) [] 1 1 (by decide)
  rw [List.append_nil, aligns_len] at this
  exact this
theorem well_big (x n : Int) (a : Option Addr) (k c : Nat) (high : Bool) (w : World) (hk : 300 < k) (hc : k ≤ 9223372036854775807) :
    Calls Try.prog 42 #[.int .i64 x, .int .i64 n, .slice a k c, .bool high] w fun e w' => e = .returned (.bool true) ∧ Below w.heap.size w w' := by
  go_enter Try.func42, Try.ntmps42
  go_wp2_with (go_at_call 15; refine (awake_any _).mono ?_; rintro e w1 ⟨rfl, hb⟩)
  go_ret
  exact ⟨rfl, hb⟩
set_option maxRecDepth 100000 in
set_option maxHeartbeats 1000000 in
theorem well_in (x n : Nat) (a : Option Addr) (k c : Nat) (l : List UInt8) (high : Bool) (w : World) (hB : Bts w a k c l) (hk : k ≤ 300) (hx : x < 4294967296) (hn : n ≤ 16) :
    Calls Try.prog 42 #[.int .i64 (x : Int), .int .i64 (n : Int), .slice a k c, .bool high] w fun e w' => e = .returned (.bool true) ∧ Below w.heap.size w w' := by
  have hl := hB.len
  have bn := pow_bd (show n ≤ 32 by omega)
  have kn := mask_eq x n (by omega) (by omega)
  have hv := lowB_lt x n
  have hv32 : lowB x n < 4294967296 := Nat.lt_of_lt_of_le hv (pow_le32 (by omega))
  generalize lowB x n = v at *
  have hAl := numBits_length high v n n
  have r1 := num_read high [] (List.replicate (8 * ((n + 7) / 8) - n) false ++ unpackB high l ++ numBits high 1 1 1) v n hv
  have r2 := aligned_bytes high (numBits high v n n) (numBits high 1 1 1) l
  have r3 := aligns_num high (numBits high v n n) l
  have e1 : [] ++ numBits high v n n ++ (List.replicate (8 * ((n + 7) / 8) - n) false ++ unpackB high l ++ numBits high 1 1 1) = fill8 ([] ++ numBits high v n n) ++ unpackB high l ++ numBits high 1 1 1 := by
    unfold fill8; rw [List.nil_append, hAl]; simp only [List.append_assoc]
  rw [e1, List.length_nil] at r1
  rw [hAl, hl] at r2 r3
  have hAL := aligns_len ([] ++ numBits high v n n) high l
  rw [List.nil_append, hAl, hl] at hAL
  rw [List.nil_append] at r1 e1
  generalize hfs : fill8 (numBits high v n n) ++ unpackB high l ++ numBits high 1 1 1 = fs at *
  have hfl : fs.length = 8 * ((n + 7) / 8 + k) + 1 := by rw [← hfs, List.length_append, hAL, numBits_length]
  have hpl := packB_length high fs
  have R1 := Lib.hid r1
  have R2 := Lib.hid r2
  have R3 := Lib.hid r3
  have HF := Lib.hid hfs
  have HL := Lib.hid hfl
  have HP := Lib.hid hpl
  have HA := Lib.hid hAl
  have HAL := Lib.hid hAL
  have HLL := Lib.hid hl
  have hcap := hB.cap
  clear r1 r2 r3 hfs hfl hpl hAl hAL e1 hl
  go_enter Try.func42, Try.ntmps42
  go_wp2_with fail
  refine (new_writer high w).mono ?_
  rintro e w1 ⟨rfl, hW1, hb1⟩
  have hB1 := hB.below hb1 (Nat.le_refl _)
  have q1 := Lib.hid (put_yes hW1 v n (by omega) hv hb1.size (by simp; omega))
  have hBlk := hB.blk
  clear hB
  go_wp2_with fail
  refine q1.out.mono ?_
  rintro e w2 ⟨v2, rfl, hW2, hB2, -⟩
  have hf1 := hW1.foot (Nat.le_refl _)
  have hBl2 := hB1.but hB2 (fun h0 y hy hk => by have := hBlk h0 y hy; have := (hf1 _ hk).1; omega)
  have hb2 := below_frame hb1 hB2 (fun j _ hj => (hf1 j hj).1) hb1.size
  rw [List.nil_append] at hW2
  clear hW1 hB1 hB2 q1 hf1 kn bn
  have q2 := Lib.hid (wadd_any hW2 a k c l hBl2 (by have := HA.out; omega) hb2.size)
  go_wp2_with fail
  refine q2.out.mono ?_
  rintro e w3 ⟨v3, rfl, hW3, hB3, -⟩
  have hf2 := hW2.foot (Nat.le_refl _)
  have hBl3 := hBl2.but hB3 (fun h0 y hy hk => by have := hBlk h0 y hy; have := (hf2 _ hk).1; omega)
  have hb3 := below_frame hb2 hB3 (fun j _ hj => (hf2 j hj).1) hb2.size
  clear hW2 hBl2 hB3 q2 hf2
  have q3 := Lib.hid (put_yes hW3 1 1 (by decide) (by decide) hb3.size (by have := HAL.out; omega))
  go_wp2_with fail
  refine q3.out.mono ?_
  rintro e w4 ⟨v4, rfl, hW4, hB4, -⟩
  have hf3 := hW3.foot (Nat.le_refl _)
  have hBl4 := hBl3.but hB4 (fun h0 y hy hk => by have := hBlk h0 y hy; have := (hf3 _ hk).1; omega)
  have hb4 := below_frame hb3 hB4 (fun j _ hj => (hf3 j hj).1) hb3.size
  rw [HF.out] at hW4
  clear hW3 hBl3 hB4 q3 hf3
  go_wp2_with fail
  refine (wbytes_any hW4).mono ?_
  rintro e w5 ⟨a5, c5, rfl, ho5, hb5'⟩
  have hW5 := hW4.below hb5'
  have hBl5 := hBl4.below hb5' (Nat.le_refl _)
  have hb5 := hb4.trans (hb5'.mono hb4.size)
  have hB5 := own_bts ho5 (by have := HP.out; have := HL.out; omega)
  clear hW4 hBl4 hb5' ho5
  have hpb : (packB high fs).length ≤ 1000 := by have := HP.out; have := HL.out; omega
  go_wp2_with fail
  refine (new_reader _ _ _ _ high _ hB5 (by omega)).mono ?_
  rintro e w6 ⟨b6, a6, c6, rfl, hR6, hl6, hx6, hb6'⟩
  have hW6 := hW5.below hb6'
  have hBl6 := hBl5.below hb6' (Nat.le_refl _)
  have hb6 := hb5.trans (hb6'.mono hb5.size)
  have n1 := Nat.ne_of_lt (Nat.lt_of_lt_of_le hW5.lt hl6)
  have n2 := hW5.vlt hl6
  have s5 := hb5.size
  have n3 : 0 < k → ∀ y, a = some y → y.block ≠ b6 := fun h0 y hy => by have := hBlk h0 y hy; omega
  clear hW5 hBl5 hb6' hB5
  have t1 := take_yes hR6 n (by omega) (by have := HP.out; have := HL.out; omega)
  rw [R1.out, Nat.zero_add] at t1
  have T1 := Lib.hid t1; clear t1
  go_wp2_with fail
  refine T1.out.mono ?_
  rintro e w7 ⟨rfl, hR7, hg7⟩
  have hW7 := hW6.grown hg7 n1 n2
  have hBl7 := hBl6.grown hg7 n3
  have hb7 := below_grow hb6 hg7 hb6.size (by omega)
  clear hW6 hBl6 hR6 hg7 T1
  have t2 := Lib.hid (bytes_yes hR7 k ((n + 7) / 8) rfl (by have := HP.out; have := HL.out; omega))
  go_wp2_with fail
  refine t2.out.mono ?_
  rintro e w8 ⟨v8, rfl, ho8, hR8, hg8⟩
  have hW8 := hW7.grown hg8 n1 n2
  have hBl8 := hBl7.grown hg8 n3
  have hb8 := below_grow hb7 hg8 hb7.size (by omega)
  rw [R2.out] at ho8
  obtain ⟨a8, c8, rfl, -⟩ := Bts.of_own ho8 (by omega)
  have hl7 : b6 < w7.heap.size := hR7.lt
  clear hW7 hBl7 hR7 hg8 t2
  have t3 := take_yes hR8 1 (by omega) (by have := HP.out; have := HL.out; omega)
  rw [R3.out] at t3
  have T3 := Lib.hid t3; clear t3
  go_wp2_with fail
  refine T3.out.mono ?_
  rintro e w9 ⟨rfl, hR9, hg9⟩
  have hW9 := hW8.grown hg9 n1 n2
  have hBl9 := hBl8.grown hg9 n3
  have hb9 := below_grow hb8 hg9 hb8.size (by omega)
  have ho9 := own_grown ho8 hg9 hl7
  clear hW8 hBl8 hR8 hg9 T3 hR9 ho8
  go_wp2_with fail
  refine (awake_any _).mono ?_
  rintro e w10 ⟨rfl, hb10'⟩
  have hW10 := hW9.below hb10'
  have hBl10 := hBl9.below hb10' (Nat.le_refl _)
  have ho10 := own_below ho9 hb10'
  have hb10 := hb9.trans (hb10'.mono hb9.size)
  clear hW9 hBl9 ho9 hb10'
  have hsm := Lib.hid (same_any _ _ _ _ _ _ _ _ _ (own_bts ho10 (by omega)) hBl10)
  go_wp2_with fail
  refine hsm.out.mono ?_
  rintro e w11 ⟨rfl, hb11'⟩
  have hW11 := hW10.below hb11'
  have hb11 := hb10.trans (hb11'.mono hb10.size)
  have hd : decide (l = l) = true := decide_eq_true rfl
  have hln := len_any hW11
  rw [HL.out, show ((8 * ((n + 7) / 8 + k) + 1 : Nat) : Int) = 8 * (((n : Int) + 7) / 8 + k) + 1 by omega] at hln
  have hln' := Lib.hid hln; clear hln hW10 hb11' ho10 hBl10 hsm
  go_wp2_with fail
  refine hln'.out.mono ?_
  rintro e w12 ⟨rfl, rfl⟩
  go_wp2_with fail
  go_ret
  exact ⟨ret_bool (by simp), hb11⟩
theorem aligns_int (x : Int) (a : Option Addr) (k c : Nat) (zs : List Int) (high : Bool) (w : World) (hx : (Lit.int .u16 x).wf = true) (hR : IsRow .u8 w a k c zs) :
    Calls Try.prog 10 #[.int .u16 x, .slice a k c, .bool high] w fun e w' => e = .returned (.bool true) ∧ Below w.heap.size w w' := by
  obtain ⟨x, rfl, hx⟩ := nat_u16 hx
  have hc := hR.le
  have ee : bits .and .u16 (x : Int) 15 = ((x % 16 : Nat) : Int) := by
    rw [show (15 : Int) = ((15 : Nat) : Int) from rfl, u16_and_nat _ _ (by omega) (by decide), show 15 = 2 ^ 4 - 1 from rfl, Nat.and_two_pow_sub_one_eq_mod]
  have e2 : ((x % 16 : Nat) : Int) % 9 = ((x % 16 % 9 : Nat) : Int) := by omega
  have h9 : x % 16 % 9 ≤ 16 := by omega
  have h16 : x % 16 ≤ 15 := by omega
  have hz : x / 16 < 4294967296 := by omega
  have e3 : (x : Int) / 16 = ((x / 16 : Nat) : Int) := by omega
  generalize hxx : x % 16 = y at *
  generalize x / 16 = z at *
  clear hxx
  generalize y % 9 = n at *
  go_enter Try.func10, Try.ntmps10
  go_wp2_with (go_at_call 15; refine (awake_any _).mono ?_; rintro e w1 ⟨rfl, hb⟩)
  clear ee e2 e3
  by_cases hk : k ≤ 300
  · have hB := (Bts.of_row hR k (Nat.le_refl _) (by omega)).below hb (Nat.le_refl _)
    refine (well_in z n a k c _ high w1 hB hk hz h9).mono ?_
    rintro e w2 ⟨rfl, hb2⟩
    have hb2 := hb.trans (hb2.mono hb.size)
    go_wp2_with fail
    go_ret
    exact ⟨rfl, hb2⟩
  · refine (well_big z n a k c high w1 (by omega) (by omega)).mono ?_
    rintro e w2 ⟨rfl, hb2⟩
    have hb2 := hb.trans (hb2.mono hb.size)
    go_wp2_with fail
    go_ret
    exact ⟨rfl, hb2⟩
end Go.Proofs.Ytdfoimgckahjpaa
