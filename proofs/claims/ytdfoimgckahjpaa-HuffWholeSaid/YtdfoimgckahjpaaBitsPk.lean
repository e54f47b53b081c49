/-
  Bits packed into bytes, as plain functions, and what is true of them. No program is in sight. No conditions.
-/
import Derived.Test.YtdfoimgckahjpaaBitsPlain
namespace Go.Proofs.Ytdfoimgckahjpaa
/-- bits as bytes -/
def packB (high : Bool) (fs : List Bool) : List UInt8 := (List.range ((fs.length + 7) / 8)).map fun q => UInt8.ofNat (num high (fun j => fs.getD (8 * q + j) false) 8 8)
theorem packB_length (high : Bool) (fs : List Bool) : (packB high fs).length = (fs.length + 7) / 8 := by simp [packB]
theorem getD_of_ge {α : Type} {l : List α} {i : Nat} {d : α} (h : l.length ≤ i) : l.getD i d = d := by
  rw [List.getD_eq_getElem?_getD, List.getElem?_eq_none h]; rfl
theorem packB_getD (high : Bool) (fs : List Bool) (q : Nat) : ((packB high fs).getD q 0).toNat = num high (fun j => fs.getD (8 * q + j) false) 8 8 := by
  have h8 := num_lt high (fun j => fs.getD (8 * q + j) false) 8 8 (Nat.le_refl _)
  by_cases h : q < (fs.length + 7) / 8
  · rw [List.getD_eq_getElem?_getD, packB, List.getElem?_map, List.getElem?_range h]
    simp only [Option.map_some, Option.getD_some, UInt8.toNat_ofNat']
    omega
  · rw [getD_of_ge (by rw [packB_length]; omega)]
    symm
    apply Nat.eq_of_testBit_eq
    intro j
    rw [num_testBit high _ 8 8 (Nat.le_refl _)]
    have hz : (0 : UInt8).toNat = 0 := rfl
    rw [hz, Nat.zero_testBit]
    by_cases hj : j < 8
    · rw [getD_of_ge (by omega)]; simp
    · simp [hj]
theorem bitAt_packB (high : Bool) (fs : List Bool) (i : Nat) : bitAt high (packB high fs) i = fs.getD i false := by
  have h8 : i % 8 < 8 := Nat.mod_lt _ (by decide)
  have hp := plc_lt (high := high) h8
  rw [bitAt, packB_getD, num_testBit high _ 8 8 (Nat.le_refl _), plc_plc h8]
  simp only [hp, h8, decide_true, Bool.true_and]
  congr 1
  omega
theorem bitAt_ge {high : Bool} {l : List UInt8} {i : Nat} (h : 8 * l.length ≤ i) : bitAt high l i = false := by
  unfold bitAt
  rw [getD_of_ge (by omega)]
  exact Nat.zero_testBit _
theorem bytes_ext {high : Bool} {l1 l2 : List UInt8} (hl : l1.length = l2.length) (h : ∀ i, i < 8 * l1.length → bitAt high l1 i = bitAt high l2 i) : l1 = l2 := by
  apply List.ext_getElem hl
  intro q h1 h2
  apply UInt8.toNat_inj.1
  apply Nat.eq_of_testBit_eq
  intro j
  by_cases hj : j < 8
  · have hp := plc_lt (high := high) hj
    have := h (8 * q + plc high j 8) (by omega)
    unfold bitAt at this
    rw [show (8 * q + plc high j 8) / 8 = q by omega, show (8 * q + plc high j 8) % 8 = plc high j 8 by omega, plc_plc hj] at this
    simpa [List.getD_eq_getElem?_getD, h1, h2] using this
  · have e1 := l1[q].toNat_lt
    have e2 := l2[q].toNat_lt
    rw [Nat.testBit_lt_two_pow (Nat.lt_of_lt_of_le e1 (Nat.pow_le_pow_right (n := 2) (i := 8) (by decide) (by omega))),
      Nat.testBit_lt_two_pow (Nat.lt_of_lt_of_le e2 (Nat.pow_le_pow_right (n := 2) (i := 8) (by decide) (by omega)))]
/-- the bytes with room for one bit more -/
def room1 (high : Bool) (fs : List Bool) : List UInt8 := if fs.length % 8 = 0 then packB high fs ++ [0] else packB high fs
theorem room1_length (high : Bool) (fs : List Bool) : (room1 high fs).length = fs.length / 8 + 1 := by
  unfold room1
  split
  · rw [List.length_append, packB_length]; simp; omega
  · rw [packB_length]; omega
theorem bitAt_append (high : Bool) (l1 l2 : List UInt8) (i : Nat) : bitAt high (l1 ++ l2) i = if i < 8 * l1.length then bitAt high l1 i else bitAt high l2 (i - 8 * l1.length) := by
  unfold bitAt
  split
  · rename_i h
    simp only [List.getD_eq_getElem?_getD, List.getElem?_append_left (show i / 8 < l1.length by omega)]
  · rename_i h
    simp only [List.getD_eq_getElem?_getD, List.getElem?_append_right (show l1.length ≤ i / 8 by omega)]
    rw [show i / 8 - l1.length = (i - 8 * l1.length) / 8 by omega, show (i - 8 * l1.length) % 8 = i % 8 by omega]
theorem bitAt_room1 (high : Bool) (fs : List Bool) (i : Nat) : bitAt high (room1 high fs) i = fs.getD i false := by
  unfold room1
  split
  · rw [bitAt_append, packB_length]
    split
    · exact bitAt_packB _ _ _
    · rw [getD_of_ge (by omega)]
      unfold bitAt
      have : ∀ j, ([0] : List UInt8).getD j 0 = 0 := by intro j; cases j <;> rfl
      rw [this]; exact Nat.zero_testBit _
  · exact bitAt_packB _ _ _
theorem getD_set {l : List UInt8} {q j : Nat} {x : UInt8} (hq : q < l.length) : (l.set q x).getD j 0 = if j = q then x else l.getD j 0 := by
  simp only [List.getD_eq_getElem?_getD, List.getElem?_set]
  by_cases h : q = j
  · subst h; simp [hq]
  · have : ¬ j = q := fun e => h e.symm
    simp [h, this]
theorem getD_snocB (fs : List Bool) (b : Bool) (j : Nat) : (fs ++ [b]).getD j false = if j < fs.length then fs.getD j false else (decide (j = fs.length) && b) := by
  simp only [List.getD_eq_getElem?_getD]
  by_cases h : j < fs.length
  · rw [if_pos h, List.getElem?_append_left h]
  · rw [if_neg h, List.getElem?_append_right (by omega)]
    by_cases h2 : j = fs.length
    · simp [h2]
    · rw [List.getElem?_eq_none (by simp; omega)]
      simp [h2]
/-- a bit more -/
theorem packB_snoc (high : Bool) (fs : List Bool) (b : Bool) :
    packB high (fs ++ [b]) = (room1 high fs).set (fs.length / 8) ((room1 high fs).getD (fs.length / 8) 0 ||| UInt8.ofNat (b.toNat <<< plc high (fs.length % 8) 8)) := by
  have hr := room1_length high fs
  apply bytes_ext (high := high)
  · rw [packB_length, List.length_set, hr]; simp; omega
  · intro i _
    have h8 : i % 8 < 8 := Nat.mod_lt _ (by decide)
    have hn8 : fs.length % 8 < 8 := Nat.mod_lt _ (by decide)
    rw [bitAt_packB, getD_snocB]
    conv => rhs; unfold bitAt
    rw [getD_set (by omega)]
    have hs := shl_lt b.toNat (plc high (fs.length % 8) 8) 8 (by cases b <;> simp) (plc_lt hn8)
    split
    · rename_i hlt
      split
      · rename_i he
        rw [UInt8.toNat_or, Nat.testBit_or, UInt8.toNat_ofNat', Nat.mod_eq_of_lt hs, bit_shl]
        have hne : ¬ plc high (i % 8) 8 = plc high (fs.length % 8) 8 := by
          intro h
          have := congrArg (fun x => plc high x 8) h
          simp only [plc_plc h8, plc_plc hn8] at this
          omega
        have := bitAt_room1 high fs i
        unfold bitAt at this
        rw [he] at this
        rw [this, decide_eq_false hne]; simp
      · exact (bitAt_room1 high fs i).symm
    · rename_i hge
      split
      · rename_i he
        rw [UInt8.toNat_or, Nat.testBit_or, UInt8.toNat_ofNat', Nat.mod_eq_of_lt hs, bit_shl]
        have h0 := bitAt_room1 high fs i
        rw [getD_of_ge (by omega)] at h0
        unfold bitAt at h0
        rw [he] at h0
        rw [h0, Bool.false_or, Bool.and_comm]
        congr 1
        apply decide_eq_decide.2
        constructor
        · intro h; rw [h]
        · intro h
          have := congrArg (fun x => plc high x 8) h
          simp only [plc_plc h8, plc_plc hn8] at this
          omega
      · rename_i hne
        have h0 := bitAt_room1 high fs i
        rw [getD_of_ge (by omega)] at h0
        unfold bitAt at h0
        rw [h0]
        have : ¬ i = fs.length := by intro h; apply hne; rw [h]
        simp [this]
/-- noughts to the end of a byte -/
def fill8 (fs : List Bool) : List Bool := fs ++ List.replicate (8 * ((fs.length + 7) / 8) - fs.length) false
theorem fill8_length (fs : List Bool) : (fill8 fs).length = 8 * ((fs.length + 7) / 8) := by simp [fill8]; omega
theorem fill8_getD (fs : List Bool) (i : Nat) : (fill8 fs).getD i false = fs.getD i false := by
  unfold fill8
  simp only [List.getD_eq_getElem?_getD]
  by_cases h : i < fs.length
  · rw [List.getElem?_append_left h]
  · rw [List.getElem?_append_right (by omega), List.getElem?_eq_none (show fs.length ≤ i by omega), List.getElem?_replicate]
    split <;> rfl
theorem packB_fill8 (high : Bool) (fs : List Bool) : packB high (fill8 fs) = packB high fs := by
  apply bytes_ext (high := high)
  · rw [packB_length, packB_length, fill8_length]; omega
  · intro i _
    rw [bitAt_packB, bitAt_packB, fill8_getD]
/-- the bits of bytes -/
def unpackB (high : Bool) (l : List UInt8) : List Bool := (List.range (8 * l.length)).map (bitAt high l)
theorem unpackB_length (high : Bool) (l : List UInt8) : (unpackB high l).length = 8 * l.length := by simp [unpackB]
theorem unpackB_getD (high : Bool) (l : List UInt8) (i : Nat) : (unpackB high l).getD i false = bitAt high l i := by
  by_cases h : i < 8 * l.length
  · rw [List.getD_eq_getElem?_getD, unpackB, List.getElem?_map, List.getElem?_range h]; rfl
  · rw [getD_of_ge (by rw [unpackB_length]; omega), bitAt_ge (by omega)]
theorem packB_unpackB (high : Bool) (l : List UInt8) : packB high (unpackB high l) = l := by
  apply bytes_ext (high := high)
  · rw [packB_length, unpackB_length]; omega
  · intro i _
    rw [bitAt_packB, unpackB_getD]
/-- whole bytes more -/
theorem packB_add (high : Bool) (fs : List Bool) (l : List UInt8) : packB high (fill8 fs ++ unpackB high l) = packB high fs ++ l := by
  apply bytes_ext (high := high)
  · rw [List.length_append, packB_length, packB_length, List.length_append, fill8_length, unpackB_length]; omega
  · intro i _
    rw [bitAt_packB, bitAt_append, packB_length]
    have hl := fill8_length fs
    split
    · rw [bitAt_packB, ← fill8_getD fs]
      simp only [List.getD_eq_getElem?_getD]
      rw [List.getElem?_append_left (by omega)]
    · rw [← unpackB_getD]
      simp only [List.getD_eq_getElem?_getD]
      rw [List.getElem?_append_right (by omega), hl]
end Go.Proofs.Ytdfoimgckahjpaa
