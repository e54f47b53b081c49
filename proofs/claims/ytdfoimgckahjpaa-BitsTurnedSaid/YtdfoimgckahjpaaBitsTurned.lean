/-
  The walk of the statement BitsTurned. No conditions.
-/
import Derived.Test.YtdfoimgckahjpaaBitsAw
import Derived.Test.YtdfoimgckahjpaaBitsRef5
namespace Go.Proofs.Ytdfoimgckahjpaa
open Go.RowKit
/-- a byte whose bits are turned round -/
def turnB (X : UInt8) : UInt8 := UInt8.ofNat (num true (fun k => X.toNat.testBit k) 8 8)
theorem turn_bit (l : List UInt8) (i : Nat) : bitAt false (l.map turnB) i = bitAt true l i := by
  by_cases h : i / 8 < l.length
  · have h8 : i % 8 < 8 := Nat.mod_lt _ (by decide)
    have e : (l.map turnB).getD (i / 8) 0 = turnB (l.getD (i / 8) 0) := by
      simp [List.getD_eq_getElem?_getD, h]
    unfold bitAt
    rw [e]
    generalize l.getD (i / 8) 0 = X
    have hl := num_lt true (fun k => X.toNat.testBit k) 8 8 (Nat.le_refl _)
    rw [turnB, UInt8.toNat_ofNat', Nat.mod_eq_of_lt (by omega), num_testBit true _ 8 8 (Nat.le_refl _)]
    show (decide (i % 8 < 8) && decide (8 - 1 - i % 8 < 8) && X.toNat.testBit (8 - 1 - i % 8)) = X.toNat.testBit (8 - 1 - i % 8)
    simp [h8]; omega
  · rw [bitAt_ge (l := l.map turnB) (by simp; omega), bitAt_ge (by omega)]
theorem num_one (high : Bool) (f : Nat → Bool) : num high f 1 1 = (f 0).toNat := by
  cases high <;> simp [num, plc]
theorem turn_step (x B p : Nat) (hx : x < 256) (hB : B ≤ 1) (hp : p < 8) : bits .or .u8 (x : Int) ((B : Int) * 2 ^ p % 256) = ((x ||| B <<< p : Nat) : Int) := by
  have h1 := shl_lt B p 8 hB hp
  have h3 : (B : Int) * 2 ^ p = ((B <<< p : Nat) : Int) := by rw [Nat.shiftLeft_eq]; simp
  rw [h3]
  generalize B <<< p = y at *
  rw [show (y : Int) % 256 = (y : Int) by omega]
  exact u8_or_nat _ _ hx (by omega)
theorem turn_val (X : UInt8) : Value.int .u8 ((num true (fun k => X.toNat.testBit k) 8 8 : Nat) : Int) = bv (turnB X) := by
  have hl := num_lt true (fun k => X.toNat.testBit k) 8 8 (Nat.le_refl _)
  show _ = Value.int .u8 ((turnB X).toNat : Int)
  rw [turnB, UInt8.toNat_ofNat', Nat.mod_eq_of_lt (by omega)]
theorem turned_big (a : Option Addr) (n c : Nat) (w : World) (h : 500 < n) (hc : n ≤ 9223372036854775807) :
    Calls Try.prog 3 #[.slice a n c] w fun e w' => e = .returned (.bool true) ∧ Below w.heap.size w w' := by
  go_enter Try.func3, Try.ntmps3
  go_wp2_with (go_at_call 15; refine (awake_any _).mono ?_; rintro e w1 ⟨rfl, hb⟩)
  go_ret
  exact ⟨rfl, hb⟩
set_option maxRecDepth 100000 in
set_option maxHeartbeats 1000000 in
theorem turned_in (a : Option Addr) (n c : Nat) (l : List UInt8) (w : World) (hB : Bts w a n c l) (hn : n ≤ 500) :
    Calls Try.prog 3 #[.slice a n c] w fun e w' => e = .returned (.bool true) ∧ Below w.heap.size w w' := by
  have hl := hB.len
  obtain ⟨i0, hi, hz0, hz1, hz2⟩ := info_parts Try.info5
  have hi' := Lib.hid hi; clear hi
  go_enter Try.func3, Try.ntmps3
  go_wp2_with (go_at_call 15; refine (awake_any _).mono ?_; rintro e w1 ⟨rfl, hb⟩)
  go_loopw [3, 4, 5, 6] (fun o i x k wr => ∃ j : Nat, j ≤ n ∧ i = .int .i64 j ∧ wr.ownsRow w.heap.size 5 1 o j (((l.take j).map turnB).map bv) ∧ Below w.heap.size w wr) (fun _ i _ _ _ => n - (intOf i).toNat)
  case atStart => exact ⟨0, by omega, rfl, own_congr (World.ownsRow_nil _ _ _ _) rfl (by simp), hb⟩
  case round =>
    obtain ⟨j, hj, rfl, ho, hbr⟩ := hrel
    by_cases hlt : j < n
    · obtain ⟨b1, o1, rfl, hc1⟩ := (hB.below hbr (Nat.le_refl _)).addr (by omega)
      have g3 := hc1 j hlt
      clear hc1
      have hts : l.take (j + 1) = l.take j ++ [l.getD j 0] := by
        rw [List.take_succ_eq_append_getElem (by omega)]; simp [List.getD_eq_getElem?_getD, List.getElem?_eq_getElem (show j < l.length by omega)]
      have hXl := (l.getD j 0).toNat_lt
      generalize l.getD j 0 = X at *
      have hts' := Lib.hid hts; clear hts
      have hjI : (j : Int) < (n : Int) := by omega
      go_wp2_with fail
      go_loop [5, 6] (fun x k => ∃ m : Nat, m ≤ 8 ∧ k = .int .i64 m ∧ x = .int .u8 ((num true (fun k => X.toNat.testBit k) 8 m : Nat) : Int)) (fun _ k => 8 - (intOf k).toNat)
      case atStart => exact ⟨0, by omega, rfl, rfl⟩
      case round =>
        obtain ⟨m, hm, rfl, rfl⟩ := hrel
        by_cases hm8 : m < 8
        · have hxl := num_lt true (fun k => X.toNat.testBit k) 8 m hm
          have hst : num true (fun k => X.toNat.testBit k) 8 (m + 1) = num true (fun k => X.toNat.testBit k) 8 m ||| ((X.toNat.testBit m).toNat <<< (7 - m)) := by
            rw [num]; show _ ||| _ <<< (8 - 1 - m) = _; rw [show 8 - 1 - m = 7 - m by omega]
          have hbit := u8_bit_bb X m
          have hbb : ((bb (X.toNat.testBit m)).toNat : Int) = ((X.toNat.testBit m).toNat : Int) := by cases X.toNat.testBit m <;> rfl
          rw [hbb] at hbit
          have hBl : (X.toNat.testBit m).toNat ≤ 1 := by cases X.toNat.testBit m <;> simp
          generalize (X.toNat.testBit m).toNat = B at *
          clear hbb
          have hst' := Lib.hid hst; clear hst
          go_wp2_with fail
          go_round
          case rel => exact ⟨m + 1, by omega, by go_num, by rw [hst'.out, turn_step _ _ _ hxl hBl (by omega)]⟩
          case measure => simp [intOf]; omega
        · obtain rfl : m = 8 := by omega
          have htv := turn_val X
          generalize num true (fun k => X.toNat.testBit k) 8 8 = T at *
          have htv' := Lib.hid htv; clear htv
          have hsr := hbr.size
          go_wp2_with (at_builtin; go_must (refine wp_app1_at rfl _ _ 22 rfl w.heap.size 5 i0 _ 1 Try.underlying22 hi'.out hz0 hz1 hz2 rfl _ _ _ rfl ho (.int .u8 (T : Int)) (by rfl) rfl (by unfold maxLen; omega) (by omega) hsr ?_))
          intro v1 w2 ho1 hg1 _hn1
          rw [htv'.out] at ho1
          have hb2 := below_grown hbr ho hg1 hsr
          have ho2 : w2.ownsRow w.heap.size 5 1 v1 (j + 1) (((l.take (j + 1)).map turnB).map bv) := by rw [hts'.out]; exact own_congr ho1 rfl (by simp)
          clear ho1 hg1
          go_wp2_with fail
          go_roundw
          case rel =>
            exact ⟨j + 1, by omega, by go_num, ho2, hb2⟩
          case measure => simp [intOf]; omega
    · obtain rfl : j = n := by omega
      rw [List.take_of_length_le (by omega)] at ho
      obtain ⟨ac, cc, rfl, hBc⟩ := Bts.of_own (own_congr ho rfl rfl) (by omega)
      have hBr := hB.below hbr (Nat.le_refl _)
      clear hB ho
      go_wp2_with fail
      refine (new_reader _ _ _ l true _ hBr (by omega)).mono ?_
      rintro e w3 ⟨b1, a1, c1, rfl, hR1, hl1, ha1, hb3⟩
      have hBc3 := hBc.below hb3 (Nat.le_refl _)
      have hbw3 := hbr.trans (hb3.mono hbr.size)
      have hs3 := hbr.size
      have ha1' := hR1.bts.blk
      go_wp2_with fail
      refine (new_reader _ _ _ (l.map turnB) false _ hBc3 (by omega)).mono ?_
      rintro e w4 ⟨b2, a2, c2, rfl, hR2, hl2, ha2, hb4⟩
      have hR14 := hR1.below hb4 (Nat.le_refl _)
      have hbw4 := hbw3.trans (hb4.mono hbw3.size)
      have hlt1 := hR1.lt
      have hne : b1 ≠ b2 := by omega
      have hx2 : ∀ x, a2 = some x → x.block ≠ b1 := fun x hx => by have := ha2 x hx; omega
      have hlen : 8 * (l.map turnB).length = 8 * j := by simp; omega
      have hx1 : 0 < l.length → ∀ x, a1 = some x → x.block ≠ b2 := fun h0 x hx => by have := ha1' h0 x hx; omega
      clear hR1 hb3 hb4 hBc hBc3 hBr ha1 ha1' ha2
      go_wp2_with fail
      clear hi'
      go_loopw [9] (fun i wr => ∃ k : Nat, k ≤ 8 * j ∧ i = .int .i64 k ∧ Rd wr b1 a1 c1 true l k ∧ Rd wr b2 a2 c2 false (l.map turnB) k ∧ Below w.heap.size w wr) (fun i _ => 8 * j - (intOf i).toNat)
      case atStart => exact ⟨0, by omega, rfl, hR14, hR2, hbw4⟩
      case round =>
        clear hR14 hR2 hbw4
        obtain ⟨k, hk, rfl, hR1, hR2, hbw⟩ := hrel
        by_cases hlt3 : k < 8 * j
        · have t1 := take_yes hR1 1 (by decide) (by omega)
          rw [num_one, Nat.add_zero] at t1
          have t2 := fun W (h : Rd W b2 a2 c2 false (l.map turnB) k) => take_yes h 1 (by decide) (by omega)
          simp only [num_one, Nat.add_zero, turn_bit] at t2
          generalize (bitAt true l k).toNat = B at *
          have t1' := Lib.hid t1; clear t1
          have t2' := Lib.hid t2; clear t2
          go_wp2_with fail
          refine t1'.out.mono ?_
          rintro e w5 ⟨rfl, hR15, hg5⟩
          have hR25 := hR2.grown hg5 (fun e => hne e.symm) hx2
          have hbw5 := below_grow hbw hg5 hbw.size (by omega)
          clear t1' hR1 hR2 hg5
          go_wp2_with fail
          refine (t2'.out _ hR25).mono ?_
          rintro e w6 ⟨rfl, hR26, hg6⟩
          have hR16 := hR15.grown hg6 hne (hx1 (by omega))
          have hbw6 := below_grow hbw5 hg6 hbw5.size (by omega)
          clear t2' hR15 hR25 hg6
          go_wp2_with fail
          go_roundw
          case rel => exact ⟨k + 1, by omega, by go_num, hR16, hR26, hbw6⟩
          case measure => simp [intOf]; omega
        · obtain rfl : k = 8 * j := by omega
          have l1 := left_any hR1
          rw [hl, Nat.sub_self] at l1
          have l2 := fun W (h : Rd W b2 a2 c2 false (l.map turnB) (8 * j)) => left_any h
          simp only [hlen, Nat.sub_self] at l2
          have l1' := Lib.hid l1; clear l1
          have l2' := Lib.hid l2; clear l2
          have hlen' := Lib.hid hlen; clear hlen
          go_wp2_with fail
          refine l1'.out.mono ?_
          rintro e w5 ⟨rfl, m, rfl⟩
          have hR25 := hR2.below (below_drewN (Below.refl _ _) m) (Nat.le_refl _)
          go_wp2_with fail
          refine (l2'.out _ hR25).mono ?_
          rintro e w6 ⟨rfl, m2, rfl⟩
          go_wp2_with fail
          go_ret
          exact ⟨ret_bool (by simp), below_drewN hbw _⟩
end Go.Proofs.Ytdfoimgckahjpaa
