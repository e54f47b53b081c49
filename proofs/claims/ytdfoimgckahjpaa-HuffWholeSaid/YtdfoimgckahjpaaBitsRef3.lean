/-
  The walks of the reference's bits: whole bytes, a number put, noughts, whole bytes added. Conditions: they are bits that were made.
-/
import Derived.Test.YtdfoimgckahjpaaBitsRef2
import Derived.Deep.LoopGhost
import Derived.Outline
namespace Go.Proofs.Ytdfoimgckahjpaa
open Go.RowKit
section
variable {w w' : World} {S b : Nat} {v : Value} {high : Bool} {fs : List Bool} {at_ : Nat}
/-- what a writing call of the reference leaves -/
def RWrote (w : World) (S b : Nat) (v : Value) (high : Bool) (fs : List Bool) (at_ : Nat) (r : Value) (e : Ending) (w' : World) : Prop :=
  ∃ v', e = .returned r ∧ Rf w' S b v' high fs at_ ∧ ButOf (Foot b v) w w' ∧ Next w v v'
theorem Rf.blk1 {w w1 : World} (h : Rf w S b v high fs at_) (hg1 : w.grownBy w1 v.ownBlock) : Blk w1 b #[v, .int .i64 (at_ : Int), .bool high] 52 := h.blk.grown hg1 (fun e => h.ne e.symm)
/-- some bits more -/
theorem rf_app {w w1 : World} {v1 : Value} {gs : List Bool} (h : Rf w S b v high fs at_) (hr : fs.length + gs.length ≤ 1099511627776)
    (ho1 : w1.ownsRow S 5 1 v1 (fs.length + gs.length) ((fs.map bb).map bv ++ (gs.map bb).map bv)) (hg1 : w.grownBy w1 v.ownBlock) :
    Rf (w1.setCell ⟨b, 0, none⟩ v1) S b v1 high (fs ++ gs) at_ ∧ ButOf (Foot b v) w (w1.setCell ⟨b, 0, none⟩ v1) ∧ ∃ a c, v1 = .slice a (fs.length + gs.length) c := by
  have hb1 := h.blk1 hg1
  have hne := own_blk_ne ho1 hb1 (by decide)
  have hle := h.le
  refine ⟨⟨hb1.set 0 v1, ?_, by simpa using hr, by simp; omega⟩, (ButOf.of_grown hg1 (fun k hk => .inr hk)).set _ (.inl (.inl rfl)), ?_⟩
  · have := own_but ho1 ((ButOf.refl (· = b) w1).set v1 (.inl rfl) (o := 0)) (fun k hk e => hne (by rw [hk, e]))
    exact own_congr this (by simp) (by simp)
  · obtain ⟨a, c, e, -⟩ := Bts.of_own (l := fs.map bb ++ gs.map bb) (own_congr ho1 rfl (by simp)) (by omega)
    exact ⟨a, c, e⟩
set_option maxHeartbeats 400000 in
theorem rfill_any (h : Rf w S b v high fs at_) (hroom : fs.length ≤ 1099511627768) (hS : S ≤ w.heap.size) :
    Calls Try.prog 30 #[.pointer (some ⟨b, 0, none⟩)] w (RWrote w S b v high (fill8 fs) at_ (.tuple #[])) := by
  obtain ⟨i0, hi, hz0, hz1, hz2⟩ := info_parts Try.info5
  have hi' := Lib.hid hi; clear hi
  go_enter Try.func30, Try.ntmps30
  go_wp2_with fail
  go_loopg [] (8 * ((fs.length + 7) / 8) - fs.length) (fun g wr => ∃ (k : Nat) (v' : Value), fs.length + k ≤ 8 * ((fs.length + 7) / 8) ∧ g + k + fs.length = 8 * ((fs.length + 7) / 8) ∧ Rf wr S b v' high (fs ++ List.replicate k false) at_ ∧ ButOf (Foot b v) w wr ∧ Next w v v')
  case atStart => exact ⟨0, v, by omega, by omega, by simpa using h, ButOf.refl _ _, Next.refl _ _⟩
  case round =>
    obtain ⟨k, v', hk, hgk, hR, hB, hN⟩ := hrel
    have hl : (fs ++ List.replicate k false).length = fs.length + k := by simp
    have hsucc : fs ++ List.replicate (k + 1) false = (fs ++ List.replicate k false) ++ [false] := by rw [List.replicate_succ', List.append_assoc]
    have hend : ¬ fs.length + k < 8 * ((fs.length + 7) / 8) → fs ++ List.replicate k false = fill8 fs := fun hn => by
      unfold fill8; rw [show k = 8 * ((fs.length + 7) / 8) - fs.length by omega]
    generalize fs ++ List.replicate k false = gs at *
    have hgs : gs.length ≤ fs.length + k ∧ fs.length + k ≤ gs.length := by omega
    clear hl
    obtain ⟨a, c, rfl, hBt⟩ := hR.shape
    have g0 := hR.blk.cell 0
    simp only [List.getElem?_toArray, List.getElem?_cons_zero] at g0
    have hsucc' := Lib.hid hsucc; clear hsucc
    have hend' := Lib.hid hend; clear hend
    by_cases hlt : fs.length + k < 8 * ((fs.length + 7) / 8)
    · have ht : (((gs.length : Int) % 8) != 0) = true := by simp; omega
      go_wp2_with (at_builtin; go_must (refine wp_app1_at rfl _ _ 22 rfl S 5 i0 _ 1 Try.underlying22 hi'.out hz0 hz1 hz2 rfl (.slice a gs.length c) _ _ rfl hR.own _ (by rfl) rfl (by unfold maxLen; omega) (by omega) (Nat.le_trans hS hB.size) ?_))
      intro v1 w1 ho1 hg1 hn1
      obtain ⟨hR2, hB2, a2, c2, rfl⟩ := rf_app (gs := [false]) hR (by simp; omega) (own_congr ho1 (by rfl) (by simp [bb, bv])) hg1
      have gc0 := (hR.blk1 hg1).cell 0
      have gf0 := (hR.blk1 hg1).free 0 none
      simp only [List.getElem?_toArray, List.getElem?_cons_zero] at gc0
      clear g0 ho1 hg1
      go_wp2_with fail
      go_roundg (gk - 1)
      case measure => omega
      case rel => exact ⟨k + 1, _, by omega, by omega, by rw [hsucc'.out]; exact hR2, hB.next hB2 hN, hN.trans hn1 hB.size⟩
    · have ht : (((gs.length : Int) % 8) != 0) = false := by simp; omega
      go_wp2_with fail
      go_end0
      exact ⟨_, rfl, by rw [← hend'.out hlt]; exact hR, hB, hN⟩
/-- the bits of a number -/
def numBits (high : Bool) (x n : Nat) (m : Nat) : List Bool := (List.range m).map fun k => x.testBit (plc high k n)
theorem numBits_succ (high : Bool) (x n m : Nat) : numBits high x n (m + 1) = numBits high x n m ++ [x.testBit (plc high m n)] := by
  unfold numBits; rw [List.range_succ, List.map_append]; rfl
theorem numBits_length (high : Bool) (x n m : Nat) : (numBits high x n m).length = m := by simp [numBits]
theorem wrap_pow {n : Nat} (h : n ≤ 32) : wrap64 ((2 : Int) ^ n) = ((2 ^ n : Nat) : Int) := by
  have h1 := pow_le32 h
  have h2 : (2 : Int) ^ n = ((2 ^ n : Nat) : Int) := by simp
  rw [h2]
  generalize 2 ^ n = z at *
  exact wrap64_in _ (by omega)
theorem rput_no (N X : Int) (hN : N < 0 ∨ 32 < N ∨ X < 0 ∨ ((2 ^ N.toNat : Nat) : Int) ≤ X) :
    Calls Try.prog 28 #[.pointer (some ⟨b, 0, none⟩), .int .i64 X, .int .i64 N] w fun e w' => e = .returned (.bool false) ∧ w = w' := by
  by_cases h1 : N < 0
  · go_enter Try.func28, Try.ntmps28
    go_wp2_with fail
    go_ret
    exact ⟨rfl, rfl⟩
  · by_cases h2 : 32 < N
    · go_enter Try.func28, Try.ntmps28
      go_wp2_with fail
      go_ret
      exact ⟨rfl, rfl⟩
    · by_cases h3 : X < 0
      · go_enter Try.func28, Try.ntmps28
        go_wp2_with fail
        go_ret
        exact ⟨rfl, rfl⟩
      · obtain ⟨n, rfl⟩ := Int.eq_ofNat_of_zero_le (show 0 ≤ N by omega)
        have h4 : ((2 ^ n : Nat) : Int) ≤ X := by simpa [h1, h2, h3] using hN
        have hw : wrap64 ((2 : Int) ^ n) ≤ X := by rw [wrap_pow (by omega)]; exact h4
        clear hN h4
        go_enter Try.func28, Try.ntmps28
        go_wp2_with fail
        go_ret
        exact ⟨rfl, rfl⟩
theorem byte_bit (x p : Nat) (hx : x < 9223372036854775808) : bits .and .i64 ((x : Int) / 2 ^ p) 1 = ((x.testBit p).toNat : Int) := by rw [i64_bit x p hx, bit_and]
set_option maxRecDepth 100000 in
set_option maxHeartbeats 1000000 in
theorem rput_yes (h : Rf w S b v high fs at_) (x n : Nat) (h32 : n ≤ 32) (hx : x < 2 ^ n) (hS : S ≤ w.heap.size) (hroom : fs.length + n ≤ 1099511627776) :
    Calls Try.prog 28 #[.pointer (some ⟨b, 0, none⟩), .int .i64 (x : Int), .int .i64 (n : Int)] w (RWrote w S b v high (fs ++ numBits high x n n) at_ (.bool true)) := by
  have hx4 := pow_le32 h32
  have hx3 : x < 9223372036854775808 := by omega
  have hw : (x : Int) < wrap64 ((2 : Int) ^ n) := by rw [wrap_pow h32]; omega
  obtain ⟨i0, hi, hz0, hz1, hz2⟩ := info_parts Try.info5
  have hi' := Lib.hid hi; clear hi
  clear hx hx4
  go_enter Try.func28, Try.ntmps28
  go_wp2_with fail
  clear hw
  go_loopw [7] (fun i wr => ∃ (k : Nat) (v' : Value), k ≤ n ∧ i = .int .i64 k ∧ Rf wr S b v' high (fs ++ numBits high x n k) at_ ∧ ButOf (Foot b v) w wr ∧ Next w v v') (fun i _ => n - (intOf i).toNat)
  case atStart => exact ⟨0, v, by omega, rfl, by simpa [numBits] using h, ButOf.refl _ _, Next.refl _ _⟩
  case round =>
    obtain ⟨k, v', hk, rfl, hR, hB, hN⟩ := hrel
    by_cases hlt : k < n
    · have hgl : (fs ++ numBits high x n k).length = fs.length + k := by rw [List.length_append, numBits_length]
      have hnext : fs ++ numBits high x n (k + 1) = (fs ++ numBits high x n k) ++ [x.testBit (plc high k n)] := by rw [numBits_succ, List.append_assoc]
      generalize hg : fs ++ numBits high x n k = gs at *
      have hnext' := Lib.hid hnext; clear hnext
      clear hg
      have hgs : gs.length ≤ fs.length + k ∧ fs.length + k ≤ gs.length := by omega
      clear hgl
      obtain ⟨a, c, rfl, hBt⟩ := hR.shape
      have g0 := hR.blk.cell 0
      have g2 := hR.blk.cell 2
      simp only [List.getElem?_toArray, List.getElem?_cons_zero, List.getElem?_cons_succ] at g0 g2
      cases high with
      | true =>
        have hbit := byte_bit x (n - 1 - k) hx3
        have hbl : (x.testBit (n - 1 - k)).toNat ≤ 1 := by cases x.testBit (n - 1 - k) <;> simp
        have hval : Value.int .u8 ((x.testBit (n - 1 - k)).toNat : Int) = bv (bb (x.testBit (plc true k n))) := by
          show _ = bv (bb (x.testBit (n - 1 - k))); cases x.testBit (n - 1 - k) <;> rfl
        have hval' := Lib.hid hval; clear hval
        generalize (x.testBit (n - 1 - k)).toNat = B at *
        go_wp2_with (at_builtin; go_must (refine wp_app1_at rfl _ _ 22 rfl S 5 i0 _ 1 Try.underlying22 hi'.out hz0 hz1 hz2 rfl (.slice a gs.length c) _ _ rfl hR.own (.int .u8 (B : Int)) (by rfl) rfl (by unfold maxLen; omega) (by omega) (Nat.le_trans hS hB.size) ?_))
        intro v1 w1 ho1 hg1 hn1
        rw [hval'.out] at ho1
        obtain ⟨hR2, hB2, a2, c2, rfl⟩ := rf_app (gs := [x.testBit (plc true k n)]) hR (by simp; omega) (own_congr ho1 (by rfl) (by simp)) hg1
        have gc0 := (hR.blk1 hg1).cell 0
        have gf0 := (hR.blk1 hg1).free 0 none
        simp only [List.getElem?_toArray, List.getElem?_cons_zero] at gc0
        clear g0 ho1 hg1 hbit
        go_wp2_with fail
        go_roundw
        case rel => exact ⟨k + 1, _, by omega, by go_num, by rw [hnext'.out]; exact hR2, hB.next hB2 hN, hN.trans hn1 hB.size⟩
        case measure => simp [intOf]; omega
      | false =>
        have hbit := byte_bit x k hx3
        have hbl : (x.testBit k).toNat ≤ 1 := by cases x.testBit k <;> simp
        have hval : Value.int .u8 ((x.testBit k).toNat : Int) = bv (bb (x.testBit (plc false k n))) := by
          show _ = bv (bb (x.testBit k)); cases x.testBit k <;> rfl
        have hval' := Lib.hid hval; clear hval
        generalize (x.testBit k).toNat = B at *
        go_wp2_with (at_builtin; go_must (refine wp_app1_at rfl _ _ 22 rfl S 5 i0 _ 1 Try.underlying22 hi'.out hz0 hz1 hz2 rfl (.slice a gs.length c) _ _ rfl hR.own (.int .u8 (B : Int)) (by rfl) rfl (by unfold maxLen; omega) (by omega) (Nat.le_trans hS hB.size) ?_))
        intro v1 w1 ho1 hg1 hn1
        rw [hval'.out] at ho1
        obtain ⟨hR2, hB2, a2, c2, rfl⟩ := rf_app (gs := [x.testBit (plc false k n)]) hR (by simp; omega) (own_congr ho1 (by rfl) (by simp)) hg1
        have gc0 := (hR.blk1 hg1).cell 0
        have gf0 := (hR.blk1 hg1).free 0 none
        simp only [List.getElem?_toArray, List.getElem?_cons_zero] at gc0
        clear g0 ho1 hg1 hbit
        go_wp2_with fail
        go_roundw
        case rel => exact ⟨k + 1, _, by omega, by go_num, by rw [hnext'.out]; exact hR2, hB.next hB2 hN, hN.trans hn1 hB.size⟩
        case measure => simp [intOf]; omega
    · obtain rfl : k = n := by omega
      go_wp2_with fail
      go_ret
      exact ⟨_, rfl, hR, hB, hN⟩
end
end Go.Proofs.Ytdfoimgckahjpaa
