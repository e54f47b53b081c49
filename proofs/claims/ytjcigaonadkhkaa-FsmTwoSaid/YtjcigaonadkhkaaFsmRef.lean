/-
  The walks of the reference's action and Step.
-/
import Derived.Test.YtjcigaonadkhkaaFsmCell
namespace Go.Proofs.Ytjcigaonadkhkaa
open Go.RowKit
set_option maxHeartbeats 2000000 in
theorem action0 (w : World) : Calls Try.prog 29 #[.int .u8 117] w fun x w' => x = .returned (.int .i64 0) ∧ w = w' := by
  go_enter Try.func29, Try.ntmps29
  go_wp2
  go_loopw [3] (fun i wr => ∃ k : Nat, k ≤ 0 ∧ i = .int .i64 k ∧ w = wr) (fun i _ => 0 - (intOf i).toNat)
  case atStart => exact ⟨0, by omega, rfl, rfl⟩
  case round =>
    obtain ⟨k, hk, rfl, rfl⟩ := hrel
    rcases (by omega : k = 0) with rfl
    · go_wp2
      go_ret
      exact ⟨rfl, rfl⟩
set_option maxHeartbeats 2000000 in
theorem action1 (w : World) : Calls Try.prog 29 #[.int .u8 100] w fun x w' => x = .returned (.int .i64 1) ∧ w = w' := by
  go_enter Try.func29, Try.ntmps29
  go_wp2
  go_loopw [3] (fun i wr => ∃ k : Nat, k ≤ 1 ∧ i = .int .i64 k ∧ w = wr) (fun i _ => 1 - (intOf i).toNat)
  case atStart => exact ⟨0, by omega, rfl, rfl⟩
  case round =>
    obtain ⟨k, hk, rfl, rfl⟩ := hrel
    rcases (by omega : k = 0 ∨ k = 1) with rfl | rfl
    · go_wp2
      go_roundw
      case rel => exact ⟨1, by omega, by go_num, by first | trivial | rfl⟩
      case measure => simp [intOf]
    · go_wp2
      go_ret
      exact ⟨rfl, rfl⟩
set_option maxHeartbeats 2000000 in
theorem action2 (w : World) : Calls Try.prog 29 #[.int .u8 115] w fun x w' => x = .returned (.int .i64 2) ∧ w = w' := by
  go_enter Try.func29, Try.ntmps29
  go_wp2
  go_loopw [3] (fun i wr => ∃ k : Nat, k ≤ 2 ∧ i = .int .i64 k ∧ w = wr) (fun i _ => 2 - (intOf i).toNat)
  case atStart => exact ⟨0, by omega, rfl, rfl⟩
  case round =>
    obtain ⟨k, hk, rfl, rfl⟩ := hrel
    rcases (by omega : k = 0 ∨ k = 1 ∨ k = 2) with rfl | rfl | rfl
    · go_wp2
      go_roundw
      case rel => exact ⟨1, by omega, by go_num, by first | trivial | rfl⟩
      case measure => simp [intOf]
    · go_wp2
      go_roundw
      case rel => exact ⟨2, by omega, by go_num, by first | trivial | rfl⟩
      case measure => simp [intOf]
    · go_wp2
      go_ret
      exact ⟨rfl, rfl⟩
set_option maxHeartbeats 2000000 in
theorem action3 (w : World) : Calls Try.prog 29 #[.int .u8 102] w fun x w' => x = .returned (.int .i64 3) ∧ w = w' := by
  go_enter Try.func29, Try.ntmps29
  go_wp2
  go_loopw [3] (fun i wr => ∃ k : Nat, k ≤ 3 ∧ i = .int .i64 k ∧ w = wr) (fun i _ => 3 - (intOf i).toNat)
  case atStart => exact ⟨0, by omega, rfl, rfl⟩
  case round =>
    obtain ⟨k, hk, rfl, rfl⟩ := hrel
    rcases (by omega : k = 0 ∨ k = 1 ∨ k = 2 ∨ k = 3) with rfl | rfl | rfl | rfl
    · go_wp2
      go_roundw
      case rel => exact ⟨1, by omega, by go_num, by first | trivial | rfl⟩
      case measure => simp [intOf]
    · go_wp2
      go_roundw
      case rel => exact ⟨2, by omega, by go_num, by first | trivial | rfl⟩
      case measure => simp [intOf]
    · go_wp2
      go_roundw
      case rel => exact ⟨3, by omega, by go_num, by first | trivial | rfl⟩
      case measure => simp [intOf]
    · go_wp2
      go_ret
      exact ⟨rfl, rfl⟩
set_option maxHeartbeats 2000000 in
theorem action4 (w : World) : Calls Try.prog 29 #[.int .u8 99] w fun x w' => x = .returned (.int .i64 4) ∧ w = w' := by
  go_enter Try.func29, Try.ntmps29
  go_wp2
  go_loopw [3] (fun i wr => ∃ k : Nat, k ≤ 4 ∧ i = .int .i64 k ∧ w = wr) (fun i _ => 4 - (intOf i).toNat)
  case atStart => exact ⟨0, by omega, rfl, rfl⟩
  case round =>
    obtain ⟨k, hk, rfl, rfl⟩ := hrel
    rcases (by omega : k = 0 ∨ k = 1 ∨ k = 2 ∨ k = 3 ∨ k = 4) with rfl | rfl | rfl | rfl | rfl
    · go_wp2
      go_roundw
      case rel => exact ⟨1, by omega, by go_num, by first | trivial | rfl⟩
      case measure => simp [intOf]
    · go_wp2
      go_roundw
      case rel => exact ⟨2, by omega, by go_num, by first | trivial | rfl⟩
      case measure => simp [intOf]
    · go_wp2
      go_roundw
      case rel => exact ⟨3, by omega, by go_num, by first | trivial | rfl⟩
      case measure => simp [intOf]
    · go_wp2
      go_roundw
      case rel => exact ⟨4, by omega, by go_num, by first | trivial | rfl⟩
      case measure => simp [intOf]
    · go_wp2
      go_ret
      exact ⟨rfl, rfl⟩
set_option maxHeartbeats 2000000 in
theorem action5 (w : World) : Calls Try.prog 29 #[.int .u8 122] w fun x w' => x = .returned (.int .i64 5) ∧ w = w' := by
  go_enter Try.func29, Try.ntmps29
  go_wp2
  go_loopw [3] (fun i wr => ∃ k : Nat, k ≤ 5 ∧ i = .int .i64 k ∧ w = wr) (fun i _ => 5 - (intOf i).toNat)
  case atStart => exact ⟨0, by omega, rfl, rfl⟩
  case round =>
    obtain ⟨k, hk, rfl, rfl⟩ := hrel
    rcases (by omega : k = 0 ∨ k = 1 ∨ k = 2 ∨ k = 3 ∨ k = 4 ∨ k = 5) with rfl | rfl | rfl | rfl | rfl | rfl
    · go_wp2
      go_roundw
      case rel => exact ⟨1, by omega, by go_num, by first | trivial | rfl⟩
      case measure => simp [intOf]
    · go_wp2
      go_roundw
      case rel => exact ⟨2, by omega, by go_num, by first | trivial | rfl⟩
      case measure => simp [intOf]
    · go_wp2
      go_roundw
      case rel => exact ⟨3, by omega, by go_num, by first | trivial | rfl⟩
      case measure => simp [intOf]
    · go_wp2
      go_roundw
      case rel => exact ⟨4, by omega, by go_num, by first | trivial | rfl⟩
      case measure => simp [intOf]
    · go_wp2
      go_roundw
      case rel => exact ⟨5, by omega, by go_num, by first | trivial | rfl⟩
      case measure => simp [intOf]
    · go_wp2
      go_ret
      exact ⟨rfl, rfl⟩
set_option maxHeartbeats 2000000 in
theorem action6 (w : World) : Calls Try.prog 29 #[.int .u8 114] w fun x w' => x = .returned (.int .i64 6) ∧ w = w' := by
  go_enter Try.func29, Try.ntmps29
  go_wp2
  go_loopw [3] (fun i wr => ∃ k : Nat, k ≤ 6 ∧ i = .int .i64 k ∧ w = wr) (fun i _ => 6 - (intOf i).toNat)
  case atStart => exact ⟨0, by omega, rfl, rfl⟩
  case round =>
    obtain ⟨k, hk, rfl, rfl⟩ := hrel
    rcases (by omega : k = 0 ∨ k = 1 ∨ k = 2 ∨ k = 3 ∨ k = 4 ∨ k = 5 ∨ k = 6) with rfl | rfl | rfl | rfl | rfl | rfl | rfl
    · go_wp2
      go_roundw
      case rel => exact ⟨1, by omega, by go_num, by first | trivial | rfl⟩
      case measure => simp [intOf]
    · go_wp2
      go_roundw
      case rel => exact ⟨2, by omega, by go_num, by first | trivial | rfl⟩
      case measure => simp [intOf]
    · go_wp2
      go_roundw
      case rel => exact ⟨3, by omega, by go_num, by first | trivial | rfl⟩
      case measure => simp [intOf]
    · go_wp2
      go_roundw
      case rel => exact ⟨4, by omega, by go_num, by first | trivial | rfl⟩
      case measure => simp [intOf]
    · go_wp2
      go_roundw
      case rel => exact ⟨5, by omega, by go_num, by first | trivial | rfl⟩
      case measure => simp [intOf]
    · go_wp2
      go_roundw
      case rel => exact ⟨6, by omega, by go_num, by first | trivial | rfl⟩
      case measure => simp [intOf]
    · go_wp2
      go_ret
      exact ⟨rfl, rfl⟩
set_option maxHeartbeats 2000000 in
theorem action7 (w : World) : Calls Try.prog 29 #[.int .u8 97] w fun x w' => x = .returned (.int .i64 7) ∧ w = w' := by
  go_enter Try.func29, Try.ntmps29
  go_wp2
  go_loopw [3] (fun i wr => ∃ k : Nat, k ≤ 7 ∧ i = .int .i64 k ∧ w = wr) (fun i _ => 7 - (intOf i).toNat)
  case atStart => exact ⟨0, by omega, rfl, rfl⟩
  case round =>
    obtain ⟨k, hk, rfl, rfl⟩ := hrel
    rcases (by omega : k = 0 ∨ k = 1 ∨ k = 2 ∨ k = 3 ∨ k = 4 ∨ k = 5 ∨ k = 6 ∨ k = 7) with rfl | rfl | rfl | rfl | rfl | rfl | rfl | rfl
    · go_wp2
      go_roundw
      case rel => exact ⟨1, by omega, by go_num, by first | trivial | rfl⟩
      case measure => simp [intOf]
    · go_wp2
      go_roundw
      case rel => exact ⟨2, by omega, by go_num, by first | trivial | rfl⟩
      case measure => simp [intOf]
    · go_wp2
      go_roundw
      case rel => exact ⟨3, by omega, by go_num, by first | trivial | rfl⟩
      case measure => simp [intOf]
    · go_wp2
      go_roundw
      case rel => exact ⟨4, by omega, by go_num, by first | trivial | rfl⟩
      case measure => simp [intOf]
    · go_wp2
      go_roundw
      case rel => exact ⟨5, by omega, by go_num, by first | trivial | rfl⟩
      case measure => simp [intOf]
    · go_wp2
      go_roundw
      case rel => exact ⟨6, by omega, by go_num, by first | trivial | rfl⟩
      case measure => simp [intOf]
    · go_wp2
      go_roundw
      case rel => exact ⟨7, by omega, by go_num, by first | trivial | rfl⟩
      case measure => simp [intOf]
    · go_wp2
      go_ret
      exact ⟨rfl, rfl⟩
set_option maxHeartbeats 2000000 in
theorem action8 (w : World) : Calls Try.prog 29 #[.int .u8 110] w fun x w' => x = .returned (.int .i64 8) ∧ w = w' := by
  go_enter Try.func29, Try.ntmps29
  go_wp2
  go_loopw [3] (fun i wr => ∃ k : Nat, k ≤ 8 ∧ i = .int .i64 k ∧ w = wr) (fun i _ => 8 - (intOf i).toNat)
  case atStart => exact ⟨0, by omega, rfl, rfl⟩
  case round =>
    obtain ⟨k, hk, rfl, rfl⟩ := hrel
    rcases (by omega : k = 0 ∨ k = 1 ∨ k = 2 ∨ k = 3 ∨ k = 4 ∨ k = 5 ∨ k = 6 ∨ k = 7 ∨ k = 8) with rfl | rfl | rfl | rfl | rfl | rfl | rfl | rfl | rfl
    · go_wp2
      go_roundw
      case rel => exact ⟨1, by omega, by go_num, by first | trivial | rfl⟩
      case measure => simp [intOf]
    · go_wp2
      go_roundw
      case rel => exact ⟨2, by omega, by go_num, by first | trivial | rfl⟩
      case measure => simp [intOf]
    · go_wp2
      go_roundw
      case rel => exact ⟨3, by omega, by go_num, by first | trivial | rfl⟩
      case measure => simp [intOf]
    · go_wp2
      go_roundw
      case rel => exact ⟨4, by omega, by go_num, by first | trivial | rfl⟩
      case measure => simp [intOf]
    · go_wp2
      go_roundw
      case rel => exact ⟨5, by omega, by go_num, by first | trivial | rfl⟩
      case measure => simp [intOf]
    · go_wp2
      go_roundw
      case rel => exact ⟨6, by omega, by go_num, by first | trivial | rfl⟩
      case measure => simp [intOf]
    · go_wp2
      go_roundw
      case rel => exact ⟨7, by omega, by go_num, by first | trivial | rfl⟩
      case measure => simp [intOf]
    · go_wp2
      go_roundw
      case rel => exact ⟨8, by omega, by go_num, by first | trivial | rfl⟩
      case measure => simp [intOf]
    · go_wp2
      go_ret
      exact ⟨rfl, rfl⟩
set_option maxHeartbeats 2000000 in
theorem action9 (w : World) : Calls Try.prog 29 #[.int .u8 116] w fun x w' => x = .returned (.int .i64 9) ∧ w = w' := by
  go_enter Try.func29, Try.ntmps29
  go_wp2
  go_loopw [3] (fun i wr => ∃ k : Nat, k ≤ 9 ∧ i = .int .i64 k ∧ w = wr) (fun i _ => 9 - (intOf i).toNat)
  case atStart => exact ⟨0, by omega, rfl, rfl⟩
  case round =>
    obtain ⟨k, hk, rfl, rfl⟩ := hrel
    rcases (by omega : k = 0 ∨ k = 1 ∨ k = 2 ∨ k = 3 ∨ k = 4 ∨ k = 5 ∨ k = 6 ∨ k = 7 ∨ k = 8 ∨ k = 9) with rfl | rfl | rfl | rfl | rfl | rfl | rfl | rfl | rfl | rfl
    · go_wp2
      go_roundw
      case rel => exact ⟨1, by omega, by go_num, by first | trivial | rfl⟩
      case measure => simp [intOf]
    · go_wp2
      go_roundw
      case rel => exact ⟨2, by omega, by go_num, by first | trivial | rfl⟩
      case measure => simp [intOf]
    · go_wp2
      go_roundw
      case rel => exact ⟨3, by omega, by go_num, by first | trivial | rfl⟩
      case measure => simp [intOf]
    · go_wp2
      go_roundw
      case rel => exact ⟨4, by omega, by go_num, by first | trivial | rfl⟩
      case measure => simp [intOf]
    · go_wp2
      go_roundw
      case rel => exact ⟨5, by omega, by go_num, by first | trivial | rfl⟩
      case measure => simp [intOf]
    · go_wp2
      go_roundw
      case rel => exact ⟨6, by omega, by go_num, by first | trivial | rfl⟩
      case measure => simp [intOf]
    · go_wp2
      go_roundw
      case rel => exact ⟨7, by omega, by go_num, by first | trivial | rfl⟩
      case measure => simp [intOf]
    · go_wp2
      go_roundw
      case rel => exact ⟨8, by omega, by go_num, by first | trivial | rfl⟩
      case measure => simp [intOf]
    · go_wp2
      go_roundw
      case rel => exact ⟨9, by omega, by go_num, by first | trivial | rfl⟩
      case measure => simp [intOf]
    · go_wp2
      go_ret
      exact ⟨rfl, rfl⟩
set_option maxHeartbeats 2000000 in
theorem action10 (w : World) : Calls Try.prog 29 #[.int .u8 84] w fun x w' => x = .returned (.int .i64 10) ∧ w = w' := by
  go_enter Try.func29, Try.ntmps29
  go_wp2
  go_loopw [3] (fun i wr => ∃ k : Nat, k ≤ 10 ∧ i = .int .i64 k ∧ w = wr) (fun i _ => 10 - (intOf i).toNat)
  case atStart => exact ⟨0, by omega, rfl, rfl⟩
  case round =>
    obtain ⟨k, hk, rfl, rfl⟩ := hrel
    rcases (by omega : k = 0 ∨ k = 1 ∨ k = 2 ∨ k = 3 ∨ k = 4 ∨ k = 5 ∨ k = 6 ∨ k = 7 ∨ k = 8 ∨ k = 9 ∨ k = 10) with rfl | rfl | rfl | rfl | rfl | rfl | rfl | rfl | rfl | rfl | rfl
    · go_wp2
      go_roundw
      case rel => exact ⟨1, by omega, by go_num, by first | trivial | rfl⟩
      case measure => simp [intOf]
    · go_wp2
      go_roundw
      case rel => exact ⟨2, by omega, by go_num, by first | trivial | rfl⟩
      case measure => simp [intOf]
    · go_wp2
      go_roundw
      case rel => exact ⟨3, by omega, by go_num, by first | trivial | rfl⟩
      case measure => simp [intOf]
    · go_wp2
      go_roundw
      case rel => exact ⟨4, by omega, by go_num, by first | trivial | rfl⟩
      case measure => simp [intOf]
    · go_wp2
      go_roundw
      case rel => exact ⟨5, by omega, by go_num, by first | trivial | rfl⟩
      case measure => simp [intOf]
    · go_wp2
      go_roundw
      case rel => exact ⟨6, by omega, by go_num, by first | trivial | rfl⟩
      case measure => simp [intOf]
    · go_wp2
      go_roundw
      case rel => exact ⟨7, by omega, by go_num, by first | trivial | rfl⟩
      case measure => simp [intOf]
    · go_wp2
      go_roundw
      case rel => exact ⟨8, by omega, by go_num, by first | trivial | rfl⟩
      case measure => simp [intOf]
    · go_wp2
      go_roundw
      case rel => exact ⟨9, by omega, by go_num, by first | trivial | rfl⟩
      case measure => simp [intOf]
    · go_wp2
      go_roundw
      case rel => exact ⟨10, by omega, by go_num, by first | trivial | rfl⟩
      case measure => simp [intOf]
    · go_wp2
      go_ret
      exact ⟨rfl, rfl⟩
set_option maxHeartbeats 2000000 in
theorem action11 (w : World) : Calls Try.prog 29 #[.int .u8 106] w fun x w' => x = .returned (.int .i64 11) ∧ w = w' := by
  go_enter Try.func29, Try.ntmps29
  go_wp2
  go_loopw [3] (fun i wr => ∃ k : Nat, k ≤ 11 ∧ i = .int .i64 k ∧ w = wr) (fun i _ => 11 - (intOf i).toNat)
  case atStart => exact ⟨0, by omega, rfl, rfl⟩
  case round =>
    obtain ⟨k, hk, rfl, rfl⟩ := hrel
    rcases (by omega : k = 0 ∨ k = 1 ∨ k = 2 ∨ k = 3 ∨ k = 4 ∨ k = 5 ∨ k = 6 ∨ k = 7 ∨ k = 8 ∨ k = 9 ∨ k = 10 ∨ k = 11) with rfl | rfl | rfl | rfl | rfl | rfl | rfl | rfl | rfl | rfl | rfl | rfl
    · go_wp2
      go_roundw
      case rel => exact ⟨1, by omega, by go_num, by first | trivial | rfl⟩
      case measure => simp [intOf]
    · go_wp2
      go_roundw
      case rel => exact ⟨2, by omega, by go_num, by first | trivial | rfl⟩
      case measure => simp [intOf]
    · go_wp2
      go_roundw
      case rel => exact ⟨3, by omega, by go_num, by first | trivial | rfl⟩
      case measure => simp [intOf]
    · go_wp2
      go_roundw
      case rel => exact ⟨4, by omega, by go_num, by first | trivial | rfl⟩
      case measure => simp [intOf]
    · go_wp2
      go_roundw
      case rel => exact ⟨5, by omega, by go_num, by first | trivial | rfl⟩
      case measure => simp [intOf]
    · go_wp2
      go_roundw
      case rel => exact ⟨6, by omega, by go_num, by first | trivial | rfl⟩
      case measure => simp [intOf]
    · go_wp2
      go_roundw
      case rel => exact ⟨7, by omega, by go_num, by first | trivial | rfl⟩
      case measure => simp [intOf]
    · go_wp2
      go_roundw
      case rel => exact ⟨8, by omega, by go_num, by first | trivial | rfl⟩
      case measure => simp [intOf]
    · go_wp2
      go_roundw
      case rel => exact ⟨9, by omega, by go_num, by first | trivial | rfl⟩
      case measure => simp [intOf]
    · go_wp2
      go_roundw
      case rel => exact ⟨10, by omega, by go_num, by first | trivial | rfl⟩
      case measure => simp [intOf]
    · go_wp2
      go_roundw
      case rel => exact ⟨11, by omega, by go_num, by first | trivial | rfl⟩
      case measure => simp [intOf]
    · go_wp2
      go_ret
      exact ⟨rfl, rfl⟩
set_option maxHeartbeats 2000000 in
theorem action12 (w : World) : Calls Try.prog 29 #[.int .u8 101] w fun x w' => x = .returned (.int .i64 12) ∧ w = w' := by
  go_enter Try.func29, Try.ntmps29
  go_wp2
  go_loopw [3] (fun i wr => ∃ k : Nat, k ≤ 12 ∧ i = .int .i64 k ∧ w = wr) (fun i _ => 12 - (intOf i).toNat)
  case atStart => exact ⟨0, by omega, rfl, rfl⟩
  case round =>
    obtain ⟨k, hk, rfl, rfl⟩ := hrel
    rcases (by omega : k = 0 ∨ k = 1 ∨ k = 2 ∨ k = 3 ∨ k = 4 ∨ k = 5 ∨ k = 6 ∨ k = 7 ∨ k = 8 ∨ k = 9 ∨ k = 10 ∨ k = 11 ∨ k = 12) with rfl | rfl | rfl | rfl | rfl | rfl | rfl | rfl | rfl | rfl | rfl | rfl | rfl
    · go_wp2
      go_roundw
      case rel => exact ⟨1, by omega, by go_num, by first | trivial | rfl⟩
      case measure => simp [intOf]
    · go_wp2
      go_roundw
      case rel => exact ⟨2, by omega, by go_num, by first | trivial | rfl⟩
      case measure => simp [intOf]
    · go_wp2
      go_roundw
      case rel => exact ⟨3, by omega, by go_num, by first | trivial | rfl⟩
      case measure => simp [intOf]
    · go_wp2
      go_roundw
      case rel => exact ⟨4, by omega, by go_num, by first | trivial | rfl⟩
      case measure => simp [intOf]
    · go_wp2
      go_roundw
      case rel => exact ⟨5, by omega, by go_num, by first | trivial | rfl⟩
      case measure => simp [intOf]
    · go_wp2
      go_roundw
      case rel => exact ⟨6, by omega, by go_num, by first | trivial | rfl⟩
      case measure => simp [intOf]
    · go_wp2
      go_roundw
      case rel => exact ⟨7, by omega, by go_num, by first | trivial | rfl⟩
      case measure => simp [intOf]
    · go_wp2
      go_roundw
      case rel => exact ⟨8, by omega, by go_num, by first | trivial | rfl⟩
      case measure => simp [intOf]
    · go_wp2
      go_roundw
      case rel => exact ⟨9, by omega, by go_num, by first | trivial | rfl⟩
      case measure => simp [intOf]
    · go_wp2
      go_roundw
      case rel => exact ⟨10, by omega, by go_num, by first | trivial | rfl⟩
      case measure => simp [intOf]
    · go_wp2
      go_roundw
      case rel => exact ⟨11, by omega, by go_num, by first | trivial | rfl⟩
      case measure => simp [intOf]
    · go_wp2
      go_roundw
      case rel => exact ⟨12, by omega, by go_num, by first | trivial | rfl⟩
      case measure => simp [intOf]
    · go_wp2
      go_ret
      exact ⟨rfl, rfl⟩
theorem action_any (c : UInt8) (hc : c ∈ letters) (w : World) : Calls Try.prog 29 #[.int .u8 (c.toNat : Int)] w fun x w' => x = .returned (.int .i64 (actOf c : Int)) ∧ w = w' := by
  simp only [letters, List.mem_cons, List.not_mem_nil, or_false] at hc
  rcases hc with rfl | rfl | rfl | rfl | rfl | rfl | rfl | rfl | rfl | rfl | rfl | rfl | rfl
  · exact action0 w
  · exact action1 w
  · exact action2 w
  · exact action3 w
  · exact action4 w
  · exact action5 w
  · exact action6 w
  · exact action7 w
  · exact action8 w
  · exact action9 w
  · exact action10 w
  · exact action11 w
  · exact action12 w
theorem own_form0 {w : World} {B E n : Nat} {v : Value} {xs : List Value} (h : w.ownsRow B E 1 v n xs) : ∃ a c, v = .slice a n c := by
  rcases h.2 with ⟨rfl, rfl⟩ | ⟨g, cap, cur, rfl, _⟩
  · exact ⟨none, 0, rfl⟩
  · exact ⟨_, _, rfl⟩
theorem field_all : ∀ s, s < 10 → ∀ e, e < 16 → ((field s e).dropLast.all (letters.contains ·) && (match (field s e).getLast? with | none => true | some d => decide (48 ≤ d.toNat) && decide (d.toNat ≤ 57)) && decide ((field s e).length ≤ 6)) = true := by decide
/-- what a field is: nothing, or letters and a digit -/
theorem field_is (s e : Nat) (hs : s ≤ 9) (he : e ≤ 15) : (field s e = [] ∧ actsN s e = [] ∧ nextN s e = s) ∨
    ∃ xs d, field s e = xs ++ [d] ∧ (∀ c ∈ xs, c ∈ letters) ∧ 48 ≤ d.toNat ∧ d.toNat ≤ 57 ∧ xs.length ≤ 6 ∧ actsN s e = xs.map actOf ∧ nextN s e = d.toNat - 48 := by
  have h := field_all s (by omega) e (by omega)
  rcases List.eq_nil_or_concat (field s e) with h0 | ⟨xs, d, h0⟩
  · exact .inl ⟨h0, by unfold actsN; rw [h0]; rfl, by unfold nextN; rw [h0]; rfl⟩
  · rw [h0] at h
    simp at h
    obtain ⟨⟨h1, h2, h3⟩, h4⟩ := h
    refine .inr ⟨xs, d, by simpa using h0, h1, h2, h3, by omega, by unfold actsN; rw [h0]; simp, by unfold nextN; rw [h0]; simp⟩
set_option maxHeartbeats 600000 in
theorem RStep_in (s e : Nat) (hs : s ≤ 9) (he : e ≤ 15) (w : World) : Calls Try.prog 15 #[.int .i64 s, .int .i64 e] w (Stepped w (actsN s e) (nextN s e)) := by
  have hc := cell_any s e hs he w
  rcases field_is s e hs he with ⟨h1, h2, h3⟩ | ⟨xs, d, h1, hx, d1, d2, hl, h2, h3⟩
  · rw [h1] at hc
    rw [h2, h3]
    go_enter Try.func15, Try.ntmps15
    go_wp2_with (go_at_call 28; refine hc.mono ?_; rintro e w' ⟨rfl, hb⟩)
    go_ret2
    exact ⟨none, 0, rfl, Nums.nil _ _, hb⟩
  · obtain ⟨fl, hfl⟩ : ∃ fl, fl = xs ++ [d] := ⟨_, rfl⟩
    rw [h1, ← hfl] at hc
    rw [h2, h3]
    have hlen : fl.length = xs.length + 1 := by rw [hfl]; simp
    have hne : fl.isEmpty = false := by rw [hfl]; simp
    have hw := IntWalk.wrap64_in (xs.length : Int) (by omega)
    have hgx : ∀ j (h : j < xs.length) (hq : j < fl.length), fl[j]'hq = xs[j] := fun j h hq => by subst hfl; rw [List.getElem_append_left h]
    have hgd : ∀ h, (⟨fl.toArray⟩ : ByteArray)[xs.length]'h = d := fun h => by subst hfl; exact (by simp : (xs ++ [d])[xs.length]'(by simp) = d)
    have hw2 : IntKind.i64.wrap (xs.length : Int) = xs.length := by rw [IntWalk.i64_left, hw]
    have hw3 : IntKind.u8.wrap ((d.toNat : Int) - 48) = ((d.toNat - 48 : Nat) : Int) := by simp [IntKind.wrap, IntKind.signed, IntKind.bits]; omega
    clear h1 h2 h3 hfl
    obtain ⟨i0, hi, hz0, hz1, hz2⟩ := info_parts (show (Try.prog.info? 3).map (fun i => (i.zero, i.size, i.bytes)) = some (some (.int .i64 0), 1, 8) from rfl)
    have hi' := Lib.hid hi
    clear hi
    go_enter Try.func15, Try.ntmps15
    go_wp2_with (go_at_call 28; refine hc.mono ?_; rintro e w' ⟨rfl, hb⟩)
    go_loopw [7, 8] (fun v i wr => ∃ j : Nat, j ≤ xs.length ∧ i = .int .i64 j ∧ wr.ownsRow w.heap.size 3 1 v j (((xs.take j).map actOf).map iv) ∧ Below w.heap.size w wr) (fun _ i _ => xs.length - (intOf i).toNat)
    case atStart => exact ⟨0, by omega, rfl, by simpa using World.ownsRow_nil _ _ _ _, hb⟩
    case round =>
      obtain ⟨j, hj, rfl, hown, hb⟩ := hrel
      have hsz := hb.size
      by_cases hlt : j < xs.length
      · have hm := hx _ (List.getElem_mem hlt)
        have hgj : ∀ h, (⟨fl.toArray⟩ : ByteArray)[j]'h = xs[j] := fun h => hgx j hlt (by omega)
        have hsn : xs.take (j + 1) = xs.take j ++ [xs[j]] := by rw [List.take_succ_eq_append_getElem hlt]
        have hact := fun W => action_any _ hm W
        have hsn' := Lib.hid hsn
        clear hsn

        generalize xs[j] = X at *
        go_wp2_with (first | (go_at_call 29; go_must (refine (hact _).mono ?_; rintro e w' ⟨rfl, rfl⟩)) | (at_builtin; go_must (refine wp_app1 rfl _ _ 23 rfl w.heap.size 3 i0 _ 8 Try.underlying23 hi'.out hz0 hz1 hz2 rfl _ _ _ rfl hown _ (by rfl) rfl (by unfold maxLen; omega) (by omega) hsz ?_)))
        intro v1 w1 ho1 hg1
        have hb1 := below_grown hb hown hg1 hsz
        clear hg1 hown
        go_wp2
        go_roundw
        case rel => exact ⟨j + 1, by omega, by go_num, own_congr ho1 rfl (by rw [hsn'.out]; simp [iv, ← List.map_take]), hb1⟩
        case measure => simp [intOf]; omega
      · obtain rfl : j = xs.length := by omega
        go_wp2_with fail
        go_quiet (fail)
        rw [List.take_of_length_le (Nat.le_refl _)] at hown
        obtain ⟨a, c, rfl⟩ := own_form0 hown
        have hN : Nums wr w.heap.size (.slice a (xs.map actOf).length c) (xs.map actOf) := own_congr (by rw [List.length_map]; exact hown) (by simp) rfl
        clear hown
        go_wp2
        go_ret2
        rw [show xs.length = (xs.map actOf).length by simp]
        exact ⟨a, c, rfl, hN.below (below_drewN (Below.refl _ _) _), below_drewN hb _⟩
theorem RStep_any (s e : Int) (w : World) : Calls Try.prog 15 #[.int .i64 s, .int .i64 e] w (Stepped w (actsI s e) (nextI s e)) := by
  by_cases h : 0 ≤ s ∧ s ≤ 9 ∧ 0 ≤ e ∧ e < 16
  · obtain ⟨s, rfl⟩ := Int.eq_ofNat_of_zero_le h.1
    obtain ⟨e, rfl⟩ := Int.eq_ofNat_of_zero_le h.2.2.1
    rw [actsI_in (by omega) (by omega), nextI_in (by omega) (by omega)]
    exact RStep_in s e (by omega) (by omega) w
  · rw [actsI_out h, nextI_out h]
    go_enter Try.func15, Try.ntmps15
    by_cases h0 : s < 0
    · go_wp2
      go_ret2
      exact ⟨none, 0, rfl, Nums.nil _ _, Below.refl _ _⟩
    · by_cases h1 : 9 < s
      · go_wp2
        go_ret2
        exact ⟨none, 0, rfl, Nums.nil _ _, Below.refl _ _⟩
      · by_cases h2 : e < 0
        · go_wp2
          go_ret2
          exact ⟨none, 0, rfl, Nums.nil _ _, Below.refl _ _⟩
        · have h3 : 16 ≤ e := by omega
          go_wp2
          go_ret2
          exact ⟨none, 0, rfl, Nums.nil _ _, Below.refl _ _⟩
end Go.Proofs.Ytjcigaonadkhkaa
