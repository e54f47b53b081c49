/-
  The walks of the functions that put a sum behind bytes, and of those that look whether one is there. Conditions: the slices read as bytes; what is made takes fewer than 2^47 bytes.
-/
import Derived.Test.YteefnbgcbjeffaaFcsRef
namespace Go.Proofs.Yteefnbgcbjeffaa
open Go.RowKit
theorem ofNat_byte (x : Nat) : ((UInt8.ofNat x).toNat : Int) = (x : Int) % 256 := by simp

set_option maxHeartbeats 400000 in
theorem add16_any (a : Option Addr) (n c : Nat) (l : List UInt8) (w : World) (x : Nat) (hx : x < 65536) (hB : Bts w a n c l) (hn9 : n ≤ 140737488355000) :
    Calls Try.prog 26 #[.slice a n c, .int .u16 x, .int .i64 2] w fun e w' => ∃ v, e = .returned v ∧ w'.ownsRow w.heap.size 5 1 v (n + 2) ((l ++ [UInt8.ofNat x, UInt8.ofNat (x / 256)]).map bv) ∧ Below w.heap.size w w' := by
  have hn := hB.cap
  have hc := hB.reach
  have hl := hB.len
  obtain ⟨i0, hi, hz0, hz1, hz2⟩ := info_parts Try.info5
  have hi' := Lib.hid hi; clear hi
  go_enter Try.func26, Try.ntmps26
  go_wp2_with (at_builtin; go_must (refine wp_appB rfl _ _ 22 rfl w.heap.size 5 i0 _ 1 Try.underlying22 hi'.out hz0 hz1 hz2 rfl _ 0 [] rfl (World.ownsRow_nil _ _ _ _) a n c l rfl hB ?c3 ?c4 (Nat.le_refl _) ?_))
  case c3 => unfold maxLen; omega
  case c4 => omega
  intro v w1 ho hg
  have hb := below_grown (Below.refl w.heap.size w) (World.ownsRow_nil w w.heap.size 5 1) hg (Nat.le_refl _)
  clear hg
  go_wp2
  go_loopw [7, 12] (fun v i wr => ∃ k : Nat, k ≤ 2 ∧ i = .int .i64 k ∧ wr.ownsRow w.heap.size 5 1 v (n + k) ((l ++ [UInt8.ofNat x, UInt8.ofNat (x / 256)].take k).map bv) ∧ Below w.heap.size w wr) (fun _ i _ => 2 - (intOf i).toNat)
  case atStart => exact ⟨0, by omega, rfl, by simpa using ho, hb⟩
  case round =>
    obtain ⟨k, hk, rfl, hown, hb⟩ := hrel
    have hsz := hb.size
    clear ho
    by_cases hlt : k < 2
    · obtain rfl | rfl : k = 0 ∨ k = 1 := by omega
      · go_wp2_with (at_builtin; go_must (refine wp_app1 rfl _ _ 22 rfl w.heap.size 5 i0 _ 1 Try.underlying22 hi'.out hz0 hz1 hz2 rfl _ _ _ rfl hown _ (by rfl) rfl (by unfold maxLen; omega) (by omega) hsz ?_))
        intro v' w' ho' hg
        have hb' := below_grown hb hown hg hsz
        clear hg hown
        go_wp2
        go_roundw
        case rel => exact ⟨1, by omega, by go_num, own_congr ho' (by omega) (by simp [bv] <;> omega), hb'⟩
        case measure => simp [intOf]
      · go_wp2_with (at_builtin; go_must (refine wp_app1 rfl _ _ 22 rfl w.heap.size 5 i0 _ 1 Try.underlying22 hi'.out hz0 hz1 hz2 rfl _ _ _ rfl hown _ (by rfl) rfl (by unfold maxLen; omega) (by omega) hsz ?_))
        intro v' w' ho' hg
        have hb' := below_grown hb hown hg hsz
        clear hg hown
        go_wp2
        go_roundw
        case rel => exact ⟨2, by omega, by go_num, own_congr ho' (by omega) (by simp [bv] <;> omega), hb'⟩
        case measure => simp [intOf]
    · obtain rfl : k = 2 := by omega
      go_wp2
      go_ret
      exact ⟨_, rfl, by simpa using hown, hb⟩

set_option maxHeartbeats 400000 in
theorem add32_any (a : Option Addr) (n c : Nat) (l : List UInt8) (w : World) (x : Nat) (hx : x < 4294967296) (hB : Bts w a n c l) (hn9 : n ≤ 140737488355000) :
    Calls Try.prog 23 #[.slice a n c, .int .u32 x, .int .i64 4] w fun e w' => ∃ v, e = .returned v ∧ w'.ownsRow w.heap.size 5 1 v (n + 4) ((l ++ [UInt8.ofNat x, UInt8.ofNat (x / 256), UInt8.ofNat (x / 65536), UInt8.ofNat (x / 16777216)]).map bv) ∧ Below w.heap.size w w' := by
  have hn := hB.cap
  have hc := hB.reach
  have hl := hB.len
  obtain ⟨i0, hi, hz0, hz1, hz2⟩ := info_parts Try.info5
  have hi' := Lib.hid hi; clear hi
  go_enter Try.func23, Try.ntmps23
  go_wp2_with (at_builtin; go_must (refine wp_appB rfl _ _ 22 rfl w.heap.size 5 i0 _ 1 Try.underlying22 hi'.out hz0 hz1 hz2 rfl _ 0 [] rfl (World.ownsRow_nil _ _ _ _) a n c l rfl hB ?c3 ?c4 (Nat.le_refl _) ?_))
  case c3 => unfold maxLen; omega
  case c4 => omega
  intro v w1 ho hg
  have hb := below_grown (Below.refl w.heap.size w) (World.ownsRow_nil w w.heap.size 5 1) hg (Nat.le_refl _)
  clear hg
  go_wp2
  go_loopw [7, 12] (fun v i wr => ∃ k : Nat, k ≤ 4 ∧ i = .int .i64 k ∧ wr.ownsRow w.heap.size 5 1 v (n + k) ((l ++ [UInt8.ofNat x, UInt8.ofNat (x / 256), UInt8.ofNat (x / 65536), UInt8.ofNat (x / 16777216)].take k).map bv) ∧ Below w.heap.size w wr) (fun _ i _ => 4 - (intOf i).toNat)
  case atStart => exact ⟨0, by omega, rfl, by simpa using ho, hb⟩
  case round =>
    obtain ⟨k, hk, rfl, hown, hb⟩ := hrel
    have hsz := hb.size
    clear ho
    by_cases hlt : k < 4
    · obtain rfl | rfl | rfl | rfl : k = 0 ∨ k = 1 ∨ k = 2 ∨ k = 3 := by omega
      · go_wp2_with (at_builtin; go_must (refine wp_app1 rfl _ _ 22 rfl w.heap.size 5 i0 _ 1 Try.underlying22 hi'.out hz0 hz1 hz2 rfl _ _ _ rfl hown _ (by rfl) rfl (by unfold maxLen; omega) (by omega) hsz ?_))
        intro v' w' ho' hg
        have hb' := below_grown hb hown hg hsz
        clear hg hown
        go_wp2
        go_roundw
        case rel => exact ⟨1, by omega, by go_num, own_congr ho' (by omega) (by simp [bv] <;> omega), hb'⟩
        case measure => simp [intOf]
      · go_wp2_with (at_builtin; go_must (refine wp_app1 rfl _ _ 22 rfl w.heap.size 5 i0 _ 1 Try.underlying22 hi'.out hz0 hz1 hz2 rfl _ _ _ rfl hown _ (by rfl) rfl (by unfold maxLen; omega) (by omega) hsz ?_))
        intro v' w' ho' hg
        have hb' := below_grown hb hown hg hsz
        clear hg hown
        go_wp2
        go_roundw
        case rel => exact ⟨2, by omega, by go_num, own_congr ho' (by omega) (by simp [bv] <;> omega), hb'⟩
        case measure => simp [intOf]
      · go_wp2_with (at_builtin; go_must (refine wp_app1 rfl _ _ 22 rfl w.heap.size 5 i0 _ 1 Try.underlying22 hi'.out hz0 hz1 hz2 rfl _ _ _ rfl hown _ (by rfl) rfl (by unfold maxLen; omega) (by omega) hsz ?_))
        intro v' w' ho' hg
        have hb' := below_grown hb hown hg hsz
        clear hg hown
        go_wp2
        go_roundw
        case rel => exact ⟨3, by omega, by go_num, own_congr ho' (by omega) (by simp [bv] <;> omega), hb'⟩
        case measure => simp [intOf]
      · go_wp2_with (at_builtin; go_must (refine wp_app1 rfl _ _ 22 rfl w.heap.size 5 i0 _ 1 Try.underlying22 hi'.out hz0 hz1 hz2 rfl _ _ _ rfl hown _ (by rfl) rfl (by unfold maxLen; omega) (by omega) hsz ?_))
        intro v' w' ho' hg
        have hb' := below_grown hb hown hg hsz
        clear hg hown
        go_wp2
        go_roundw
        case rel => exact ⟨4, by omega, by go_num, own_congr ho' (by omega) (by simp [bv] <;> omega), hb'⟩
        case measure => simp [intOf]
    · obtain rfl : k = 4 := by omega
      go_wp2
      go_ret
      exact ⟨_, rfl, by simpa using hown, hb⟩

end Go.Proofs.Yteefnbgcbjeffaa
