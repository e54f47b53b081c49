/-
  The walks of the functions that reckon the two sums, in the program and in the reference. No conditions beyond: the slice reads as bytes.
-/
import Derived.Test.YteefnbgcbjeffaaLib
import Derived.Test.YteefnbgcbjeffaaFcsPlain
namespace Go.Proofs.Yteefnbgcbjeffaa
open Go.RowKit

theorem max_u16 : bits .xor .u16 IntKind.u16.max 0 = 65535 := by decide
theorem not_u16 (x : Nat) (hx : x < 65536) : bits .xor .u16 IntKind.u16.max (x : Int) = ((x ^^^ 65535 : Nat) : Int) := by
  rw [show IntKind.u16.max = ((65535 : Nat) : Int) from by decide, u16_xor_nat _ _ (by omega) hx, Nat.xor_comm]
theorem max_u32 : bits .xor .u32 IntKind.u32.max 0 = 4294967295 := by decide
theorem not_u32 (x : Nat) (hx : x < 4294967296) : bits .xor .u32 IntKind.u32.max (x : Int) = ((x ^^^ 4294967295 : Nat) : Int) := by
  rw [show IntKind.u32.max = ((4294967295 : Nat) : Int) from by decide, u32_xor_nat _ _ (by omega) hx, Nat.xor_comm]

set_option maxHeartbeats 400000 in
theorem sum16_any (a : Option Addr) (n c : Nat) (l : List UInt8) (w : World) (p : Nat) (hp : p < 65536) (hB : Bts w a n c l) :
    Calls Try.prog 20 #[.slice a n c, .int .u16 p] w fun e w' => e = .returned (.int .u16 ((crc p 65535 l ^^^ 65535 : Nat) : Int)) ∧ w = w' := by
  have hn := hB.cap
  have hc := hB.reach
  have hl := hB.len
  have hx0 := max_u16
  go_enter Try.func20, Try.ntmps20
  go_wp2
  go_loop [5, 13] (fun x i => ∃ k : Nat, k ≤ n ∧ i = .int .i64 k ∧ x = .int .u16 ((crc p 65535 (l.take k) : Nat) : Int)) (fun _ i => n - (intOf i).toNat)
  case atStart => exact ⟨0, by omega, rfl, rfl⟩
  case round =>
    obtain ⟨k, hk, rfl, rfl⟩ := hrel
    have hX : crc p 65535 (l.take k) < 65536 := crc_lt (n := 16) (by omega) hp _ _ (by omega)
    by_cases hlt : k < n
    · obtain ⟨b, o, rfl, hcl⟩ := hB.addr (by omega)
      have g1 := hcl k hlt
      clear hcl
      have hb8 : (l.getD k 0).toNat < 256 := (l.getD k 0).toNat_lt
      have hs : crc p 65535 (l.take (k + 1)) = crcSteps p 8 (crc p 65535 (l.take k) ^^^ (l.getD k 0).toNat) := by
        rw [List.take_succ_eq_append_getElem (by omega), crc_snoc]
        simp [crcByte, List.getD_eq_getElem?_getD, hl, hlt]
      generalize crc p 65535 (l.take k) = X at *
      generalize (l.getD k 0).toNat = C at *
      have hs' := Lib.hid hs; clear hs
      have hxx : bits .xor .u16 (X : Int) (C : Int) = ((X ^^^ C : Nat) : Int) := u16_xor_nat X C hX (by omega)
      have hXC : X ^^^ C < 65536 := Nat.xor_lt_two_pow (n := 16) hX (by omega)
      go_wp2
      go_loop [5, 21] (fun x i => ∃ j : Nat, j ≤ 8 ∧ i = .int .i64 j ∧ x = .int .u16 ((crcSteps p j (X ^^^ C) : Nat) : Int)) (fun _ i => 8 - (intOf i).toNat)
      case atStart => exact ⟨0, by omega, rfl, rfl⟩
      case round =>
        obtain ⟨j, hj, rfl, rfl⟩ := hrel
        have hY := crcSteps_lt (n := 16) hp hXC j
        have hs2 : crcSteps p (j + 1) (X ^^^ C) = crcStep p (crcSteps p j (X ^^^ C)) := rfl
        have hs8 : j = 8 → crcSteps p j (X ^^^ C) = crc p 65535 (l.take (k + 1)) := fun e => by rw [hs'.out, e]
        generalize crcSteps p j (X ^^^ C) = Y at *
        have hs3 := Lib.hid hs2; clear hs2
        have hs9 := Lib.hid hs8; clear hs8
        have hxp : bits .xor .u16 ((Y : Int) / 2) (p : Int) = ((Y / 2 ^^^ p : Nat) : Int) := by
          rw [show (Y : Int) / 2 = ((Y / 2 : Nat) : Int) by omega]; exact u16_xor_nat (Y / 2) p (by omega) hp
        have hpar : (bits .and .u16 (Y : Int) 1 == 1) = decide (Y % 2 = 1) := by
          rw [show (1 : Int) = ((1 : Nat) : Int) from rfl, u16_and_nat Y 1 hY (by omega), nat_mask1, Bool.eq_iff_iff]
          simp; omega
        by_cases hlt8 : j < 8
        · by_cases h2 : Y % 2 = 1
          · rw [decide_eq_true h2] at hpar
            have e3 : crcStep p Y = Y / 2 ^^^ p := by simp [crcStep, h2]
            rw [e3] at hs3
            clear e3 h2
            go_wp2
            go_round
            case rel => exact ⟨j + 1, by omega, by go_num, by rw [hs3.out]⟩
            case measure => simp [intOf]; omega
          · rw [decide_eq_false h2] at hpar
            have e3 : crcStep p Y = Y / 2 := by simp [crcStep, h2]
            rw [e3] at hs3
            clear e3 h2
            go_wp2
            go_round
            case rel => exact ⟨j + 1, by omega, by go_num, by rw [hs3.out]; go_num⟩
            case measure => simp [intOf]; omega
        · clear hpar hxp
          go_wp2
          go_round
          case rel => exact ⟨k + 1, by omega, by go_num, by rw [hs9.out (by omega)]⟩
          case measure => simp [intOf]; omega
    · obtain rfl : k = n := by omega
      have hnot := not_u16 _ hX
      rw [List.take_of_length_le (by omega)] at *
      go_wp2
      go_ret
      exact ⟨rfl, rfl⟩

set_option maxHeartbeats 400000 in
theorem sum32_any (a : Option Addr) (n c : Nat) (l : List UInt8) (w : World) (p : Nat) (hp : p < 4294967296) (hB : Bts w a n c l) :
    Calls Try.prog 21 #[.slice a n c, .int .u32 p] w fun e w' => e = .returned (.int .u32 ((crc p 4294967295 l ^^^ 4294967295 : Nat) : Int)) ∧ w = w' := by
  have hn := hB.cap
  have hc := hB.reach
  have hl := hB.len
  have hx0 := max_u32
  go_enter Try.func21, Try.ntmps21
  go_wp2
  go_loop [5, 13] (fun x i => ∃ k : Nat, k ≤ n ∧ i = .int .i64 k ∧ x = .int .u32 ((crc p 4294967295 (l.take k) : Nat) : Int)) (fun _ i => n - (intOf i).toNat)
  case atStart => exact ⟨0, by omega, rfl, rfl⟩
  case round =>
    obtain ⟨k, hk, rfl, rfl⟩ := hrel
    have hX : crc p 4294967295 (l.take k) < 4294967296 := crc_lt (n := 32) (by omega) hp _ _ (by omega)
    by_cases hlt : k < n
    · obtain ⟨b, o, rfl, hcl⟩ := hB.addr (by omega)
      have g1 := hcl k hlt
      clear hcl
      have hb8 : (l.getD k 0).toNat < 256 := (l.getD k 0).toNat_lt
      have hs : crc p 4294967295 (l.take (k + 1)) = crcSteps p 8 (crc p 4294967295 (l.take k) ^^^ (l.getD k 0).toNat) := by
        rw [List.take_succ_eq_append_getElem (by omega), crc_snoc]
        simp [crcByte, List.getD_eq_getElem?_getD, hl, hlt]
      generalize crc p 4294967295 (l.take k) = X at *
      generalize (l.getD k 0).toNat = C at *
      have hs' := Lib.hid hs; clear hs
      have hxx : bits .xor .u32 (X : Int) (C : Int) = ((X ^^^ C : Nat) : Int) := u32_xor_nat X C hX (by omega)
      have hXC : X ^^^ C < 4294967296 := Nat.xor_lt_two_pow (n := 32) hX (by omega)
      go_wp2
      go_loop [5, 21] (fun x i => ∃ j : Nat, j ≤ 8 ∧ i = .int .i64 j ∧ x = .int .u32 ((crcSteps p j (X ^^^ C) : Nat) : Int)) (fun _ i => 8 - (intOf i).toNat)
      case atStart => exact ⟨0, by omega, rfl, rfl⟩
      case round =>
        obtain ⟨j, hj, rfl, rfl⟩ := hrel
        have hY := crcSteps_lt (n := 32) hp hXC j
        have hs2 : crcSteps p (j + 1) (X ^^^ C) = crcStep p (crcSteps p j (X ^^^ C)) := rfl
        have hs8 : j = 8 → crcSteps p j (X ^^^ C) = crc p 4294967295 (l.take (k + 1)) := fun e => by rw [hs'.out, e]
        generalize crcSteps p j (X ^^^ C) = Y at *
        have hs3 := Lib.hid hs2; clear hs2
        have hs9 := Lib.hid hs8; clear hs8
        have hxp : bits .xor .u32 ((Y : Int) / 2) (p : Int) = ((Y / 2 ^^^ p : Nat) : Int) := by
          rw [show (Y : Int) / 2 = ((Y / 2 : Nat) : Int) by omega]; exact u32_xor_nat (Y / 2) p (by omega) hp
        have hpar : (bits .and .u32 (Y : Int) 1 == 1) = decide (Y % 2 = 1) := by
          rw [show (1 : Int) = ((1 : Nat) : Int) from rfl, u32_and_nat Y 1 hY (by omega), nat_mask1, Bool.eq_iff_iff]
          simp; omega
        by_cases hlt8 : j < 8
        · by_cases h2 : Y % 2 = 1
          · rw [decide_eq_true h2] at hpar
            have e3 : crcStep p Y = Y / 2 ^^^ p := by simp [crcStep, h2]
            rw [e3] at hs3
            clear e3 h2
            go_wp2
            go_round
            case rel => exact ⟨j + 1, by omega, by go_num, by rw [hs3.out]⟩
            case measure => simp [intOf]; omega
          · rw [decide_eq_false h2] at hpar
            have e3 : crcStep p Y = Y / 2 := by simp [crcStep, h2]
            rw [e3] at hs3
            clear e3 h2
            go_wp2
            go_round
            case rel => exact ⟨j + 1, by omega, by go_num, by rw [hs3.out]; go_num⟩
            case measure => simp [intOf]; omega
        · clear hpar hxp
          go_wp2
          go_round
          case rel => exact ⟨k + 1, by omega, by go_num, by rw [hs9.out (by omega)]⟩
          case measure => simp [intOf]; omega
    · obtain rfl : k = n := by omega
      have hnot := not_u32 _ hX
      rw [List.take_of_length_le (by omega)] at *
      go_wp2
      go_ret
      exact ⟨rfl, rfl⟩

end Go.Proofs.Yteefnbgcbjeffaa
