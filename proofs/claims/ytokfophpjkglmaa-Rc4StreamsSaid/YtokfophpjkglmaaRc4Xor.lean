/-
  The walk of the method that gives the bytes of a stream xor'd onto a row. Conditions: it is a stream that was made, whose place and number are small; the row does not lie in its block.
-/
import Derived.Test.YtokfophpjkglmaaRc4Next
namespace Go.Proofs.Ytokfophpjkglmaa
open Go.RowKit
set_option maxHeartbeats 1000000 in
theorem Xor_any (b : Nat) (C : Cph) (w : World) (a : Option Addr) (n c : Nat) (l : List UInt8) (hC : Ciph w b C) (hB : Bts w a n c l) (hne : 0 < n → ∀ x, a = some x → x.block ≠ b)
    (hoff : C.off + n < 1099511627776) (hid : C.id < 1099511627776) :
    Calls Try.prog 11 #[.pointer (some ⟨b, 0, none⟩), .slice a n c] w fun e w' => e = .returned (.slice (some ⟨w.heap.size, 0, none⟩) n n) ∧ w'.ownsRow w.heap.size 5 1 (.slice (some ⟨w.heap.size, 0, none⟩) n n) n ((C.xor l).map bv) ∧ Ciph w' b (C.after n) ∧ w.grownBy w' (some b) := by
  have c1 := hC.made
  have hn := hB.cap
  have hc := hB.reach
  have hl := hB.len
  obtain ⟨i0, hi, hz0, hz1, hz2⟩ := info_parts (show (Try.prog.info? 5).map (fun i => (i.zero, i.size, i.bytes)) = some (some (.int .u8 0), 1, 1) by kernel_rfl)
  have hmk := run_mkB (P := Try.prog) Try.underlying22 hi hz0 hz1 hz2 n (by omega)
  clear hi
  go_enter Try.func11, Try.ntmps11
  go_wp2_with fail
  go_loopw [22] (fun i wr => ∃ k : Nat, k ≤ n ∧ i = .int .i64 k ∧ Ciph wr b (C.after k) ∧ Blk wr w.heap.size (((C.xor (l.take k)).map bv ++ List.replicate (n - k) (Value.int .u8 0)).toArray) 5 ∧ w.grownBy wr (some b)) (fun i _ => n - (intOf i).toNat)
  case atStart =>
    refine ⟨0, by omega, rfl, hC.grown (grown_below (below_alloc (Below.refl w.heap.size w) _ (Nat.le_refl _)) none) (by simp), ?_, grown_below (below_alloc (Below.refl w.heap.size w) _ (Nat.le_refl _)) _⟩
    have := Blk.new w (mkB n) 5
    simpa [mkB, Cph.xor] using this
  case round =>
    obtain ⟨k, hk, rfl, hCk, hG, hg⟩ := hrel
    by_cases hlt : k < n
    · obtain ⟨ba, oa, rfl, hcl⟩ := (hB.grown hg hne).addr (by omega)
      have g1 := hcl k hlt
      clear hcl
      have hnx := next_any b (C.after k) (l.getD k 0) wr hCk (by rw [Cph.after_off]; omega) (by rw [Cph.after_id]; omega)
      generalize hx : l.getD k 0 = x at *
      have hx' := Lib.hid hx; clear hx
      have hnx' := Lib.hid hnx; clear hnx
      go_wp2_with fail
      refine hnx'.out.mono ?_
      rintro e w1 ⟨rfl, hC1, hg1⟩
      have hbb := hC.lt
      have hG1 := hG.grown hg1 (by simp; omega)
      have cG : w1.cell? ⟨w.heap.size, k, none⟩ = some (.int .u8 0) := by
        have e1 : ((C.xor (l.take k)).map bv).length = k := by simp [Cph.xor_length, hl, Nat.min_eq_left hk]
        rw [hG1.cell, List.getElem?_toArray, List.getElem?_append_right (by omega), e1, Nat.sub_self, List.getElem?_replicate, if_pos (by omega)]
      have fG := hG1.free k none
      go_wp2
      go_roundw
      case rel =>
        refine ⟨k + 1, by omega, by go_num, ?_, ?_, ?_⟩
        · rw [Cph.after_snoc]; exact hC1.grown grown_set (by simp; omega)
        · have := hG1.set k (.int .u8 (((C.after k).out x).toNat : Int))
          rw [List.setIfInBounds_toArray] at this
          have e1 : ((C.xor (l.take k)).map bv).length = k := by simp [Cph.xor_length, hl, Nat.min_eq_left hk]
          have e2 := set_next ((C.xor (l.take k)).map bv) (.int .u8 0) (.int .u8 (((C.after k).out x).toNat : Int)) (n - (k + 1))
          rw [e1, show n - (k + 1) + 1 = n - k by omega] at e2
          rw [e2] at this
          rw [Cph.xor_take l k C (by omega), List.map_append, hx'.out]
          exact this
        · exact grown_new (grown_trans hg hg1) (Nat.le_refl _)
      case measure => simp [intOf]; omega
    · obtain rfl : k = n := by omega
      go_wp2
      go_ret
      refine ⟨rfl, ?_, hCk, hg⟩
      rw [List.take_of_length_le (by omega)] at hG
      have := own_of_blk (B := w.heap.size) (n := k) (c := k) hG (Nat.le_refl _) (Nat.le_refl _) (by unfold maxLen; omega) (by simp [Cph.xor_length, hl])
      exact own_congr this rfl (by rw [Nat.sub_self, List.replicate_zero, List.append_nil, List.take_of_length_le (by simp [Cph.xor_length, hl])])
end Go.Proofs.Ytokfophpjkglmaa
