/-
  The walks of the reference's bits: the bits of bytes, whole bytes added, all bytes. Conditions: the slices read as bytes.
-/
import Derived.Test.YtdfoimgckahjpaaBitsRef3
import Derived.Deep.RegionLaw
import Derived.Deep.DrawnRows
import Derived.Outline
namespace Go.Proofs.Ytdfoimgckahjpaa
open Go.RowKit
attribute [local go_sem ↓] Go.wp_at_zero Go.wp_at_succ
theorem unpack_take (high : Bool) (l : List UInt8) (j : Nat) (hj : j < 8 * l.length) : (unpackB high l).take (j + 1) = (unpackB high l).take j ++ [bitAt high l j] := by
  rw [List.take_succ_eq_append_getElem (by rw [unpackB_length]; exact hj)]
  congr 2
  have := unpackB_getD high l j
  rw [List.getD_eq_getElem?_getD, List.getElem?_eq_getElem (by rw [unpackB_length]; exact hj)] at this
  exact this
theorem u8_bit_bb (X : UInt8) (p : Nat) : bits .and .u8 ((X.toNat : Int) / 2 ^ p) 1 = ((bb (X.toNat.testBit p)).toNat : Int) := by
  have hx := X.toNat_lt
  have h1 : (X.toNat : Int) / 2 ^ p = ((X.toNat >>> p : Nat) : Int) := by
    rw [Nat.shiftRight_eq_div_pow]; simp
  have h2 : X.toNat >>> p ≤ X.toNat := by rw [Nat.shiftRight_eq_div_pow]; exact Nat.div_le_self _ _
  rw [h1, show (1 : Int) = ((1 : Nat) : Int) from rfl, u8_and_nat _ _ (by omega) (by decide), bit_and]
  cases X.toNat.testBit p <;> rfl
theorem u8_bit (x p : Nat) (hx : x < 256) : bits .and .u8 ((x : Int) / 2 ^ p) 1 = ((x.testBit p).toNat : Int) := by
  have h1 : (x : Int) / 2 ^ p = ((x >>> p : Nat) : Int) := by
    rw [Nat.shiftRight_eq_div_pow]; simp
  have h2 : x >>> p ≤ x := by rw [Nat.shiftRight_eq_div_pow]; exact Nat.div_le_self _ _
  rw [h1, show (1 : Int) = ((1 : Nat) : Int) from rfl, u8_and_nat _ _ (by omega) (by decide), bit_and]
theorem Rf.foot {w : World} {S b : Nat} {v : Value} {high : Bool} {fs : List Bool} {at_ : Nat} (h : Rf w S b v high fs at_) (hS : S ≤ b) : ∀ k, Foot b v k → S ≤ k ∧ k < w.heap.size := by
  intro k hk
  rcases hk with rfl | e
  · exact ⟨hS, h.lt⟩
  · exact h.own.lt k e
/-- what Open answers -/
def ROpened (w : World) (high : Bool) (l : List UInt8) (e : Ending) (w' : World) : Prop :=
  ∃ v', e = .returned (.pointer (some ⟨w.heap.size, 0, none⟩)) ∧ Rf w' w.heap.size w.heap.size v' high (unpackB high l) 0 ∧ Below w.heap.size w w'
set_option maxRecDepth 100000 in
set_option maxHeartbeats 1000000 in
theorem ropen_any (a : Option Addr) (n c : Nat) (l : List UInt8) (high : Bool) (w : World) (hB : Bts w a n c l) (hn : n ≤ 1099511627) :
    Calls Try.prog 34 #[.slice a n c, .bool high] w (ROpened w high l) := by
  have hl := hB.len
  obtain ⟨i0, hi, hz0, hz1, hz2⟩ := info_parts Try.info5
  have hi' := Lib.hid hi; clear hi
  have h0 : Rf (w.alloc (.cells #[.slice none 0 0, .int .i64 0, .bool high] 52)) w.heap.size w.heap.size (.slice none 0 0) high [] 0 :=
    ⟨Blk.new w _ _, World.ownsRow_nil _ _ _ _, by simp, by simp⟩
  have hb0 := below_alloc (Below.refl w.heap.size w) (.cells #[.slice none 0 0, .int .i64 0, .bool high] 52) (Nat.le_refl _)
  go_enter Try.func34, Try.ntmps34
  go_wp2_with fail
  generalize w.alloc (.cells #[.slice none 0 0, .int .i64 0, .bool high] 52) = w0 at *
  go_loopw [6, 7] (fun i k wr => ∃ (i' : Nat) (v' : Value), i' ≤ n ∧ i = .int .i64 i' ∧ Rf wr w.heap.size w.heap.size v' high ((unpackB high l).take (8 * i')) 0 ∧ Below w.heap.size w wr) (fun i _ _ => n - (intOf i).toNat)
  case atStart => exact ⟨0, _, by omega, rfl, by simpa using h0, hb0⟩
  case round =>
    obtain ⟨i, v', hik, rfl, hR, hb⟩ := hrel
    by_cases hlt : i < n
    · obtain ⟨wo, rfl⟩ : ∃ wo : World, wo = wr := ⟨_, rfl⟩
      go_wp2_with fail
      go_loopw [7] (fun k wr => ∃ (k' : Nat) (v' : Value), k' ≤ 8 ∧ k = .int .i64 k' ∧ Rf wr w.heap.size w.heap.size v' high ((unpackB high l).take (8 * i + k')) 0 ∧ Below w.heap.size w wr) (fun k _ => 8 - (intOf k).toNat)
      case atStart => exact ⟨0, v', by omega, rfl, hR, hb⟩
      case round =>
        clear hR hb
        obtain ⟨k, v', hkk, rfl, hR, hb⟩ := hrel
        by_cases hlt2 : k < 8
        · have hX : bitAt high l (8 * i + k) = (l.getD i 0).toNat.testBit (plc high k 8) := by
            unfold bitAt; rw [show (8 * i + k) / 8 = i by omega, show (8 * i + k) % 8 = k by omega]
          have ht := unpack_take high l (8 * i + k) (by omega)
          rw [hX] at ht
          have hgl : ((unpackB high l).take (8 * i + k)).length = 8 * i + k := by rw [List.length_take, unpackB_length]; omega
          generalize hg : (unpackB high l).take (8 * i + k) = gs at *
          clear hg hX
          have ht' := Lib.hid ht; clear ht
          have hgs : gs.length ≤ 8 * i + k ∧ 8 * i + k ≤ gs.length := by omega
          clear hgl
          obtain ⟨ab, cb, rfl, hBt⟩ := hR.shape
          obtain ⟨b1, o1, rfl, hc1⟩ := (hB.below hb (Nat.le_refl _)).addr (by omega)
          have g3 := hc1 i hlt
          clear hc1
          have g0 := hR.blk.cell 0
          simp only [List.getElem?_toArray, List.getElem?_cons_zero] at g0
          have hXl := (l.getD i 0).toNat_lt
          generalize l.getD i 0 = X at *
          have hI1 : (0 : Int) ≤ (i : Int) := by omega
          have hI2 : (i : Int) < (n : Int) := by omega
          cases high with
          | true =>
            have e1 : IntKind.i64.wrap (7 - (k : Int)) = ((7 - k : Nat) : Int) := by rw [IntWalk.i64_in _ (by omega)]; omega
            have e2 : IntKind.u64.wrap ((7 - k : Nat) : Int) = ((7 - k : Nat) : Int) := by rw [IntKind.wrap_u64]; omega
            have e3 : min (7 - k) 8 = 7 - k := by omega
            have e4 := u8_bit_bb X (7 - k)
            have e5 : plc true k 8 = 7 - k := by show 8 - 1 - k = 7 - k; omega
            rw [e5] at ht'
            generalize 7 - k = p at *
            generalize X.toNat.testBit p = bt at *
            have hN0 := Bts.new (w := wr) (e := 5) (m := (0, 0)) [bb bt] (by simp)
            have hN1 := Lib.hid hN0.drew
            have hW := Lib.hid (below_alloc (Below.refl wr.heap.size wr) (.cells ([bb bt].map bv).toArray 5 (0, 0)) (Nat.le_refl _)).drew
            have hoW := Lib.hid (own_below hR.own hW.out)
            have hRb := Lib.hid (fun w1 (hg : wr.grownBy w1 (Value.slice ab gs.length cb).ownBlock) => hR.blk1 hg)
            have hRa := Lib.hid (fun v1 w1 => rf_app (v1 := v1) (w1 := w1) (gs := [bt]) hR)
            clear hN0 e5
            generalize hu : bb bt = u at *
            have hu' := Lib.hid hu; clear hu
            have ga0 := (World.cell?_alloc_lt wr (.cells #[.int .u8 (u.toNat : Int)] 5) ⟨w.heap.size, 0, none⟩ hR.lt).trans g0
            go_wp2_with fail
            go_region_law (refine step_appB_at rfl _ _ 22 (by rfl) w.heap.size 5 i0 _ 1 Try.underlying22 hi'.out hz0 hz1 hz2 rfl (.slice ab gs.length cb) gs.length _ rfl hoW.out (some ⟨wr.heap.size, 0, none⟩) 1 1 [u] rfl hN1.out (by unfold maxLen; omega) (by omega) (Nat.le_trans hb.size hW.out.size) ?_; intro v1 w1 ho1 hg1 hn1; have gb := hRb.out _ (grown_of hW.out hg1); obtain ⟨hR2, hB2, a2, c2, rfl⟩ := hRa.out v1 w1 (by simp; omega) (own_congr ho1 (by rfl) (by simp [hu'.out])) (grown_of hW.out hg1);  have gc0 := gb.cell 0; have gf0 := gb.free 0 none; simp only [List.getElem?_toArray, List.getElem?_cons_zero] at gc0)
            all_goals go_wp2_with fail
            all_goals go_roundw
            all_goals first | exact ⟨k + 1, _, by omega, by go_num, by rw [show 8 * i + (k + 1) = 8 * i + k + 1 by omega, ht'.out]; exact hR2, below_frame hb hB2 (fun j _ hj => (hR.foot (Nat.le_refl _) j hj).1) hb.size⟩ | (simp [intOf]; omega)
          | false =>
            have e2 : IntKind.u64.wrap (k : Int) = (k : Int) := by rw [IntKind.wrap_u64]; omega
            have e3 : min k 8 = k := by omega
            have e4 := u8_bit_bb X k
            have e5 : plc false k 8 = k := rfl
            rw [e5] at ht'
            generalize X.toNat.testBit k = bt at *
            have hN0 := Bts.new (w := wr) (e := 5) (m := (0, 0)) [bb bt] (by simp)
            have hN1 := Lib.hid hN0.drew
            have hW := Lib.hid (below_alloc (Below.refl wr.heap.size wr) (.cells ([bb bt].map bv).toArray 5 (0, 0)) (Nat.le_refl _)).drew
            have hoW := Lib.hid (own_below hR.own hW.out)
            have hRb := Lib.hid (fun w1 (hg : wr.grownBy w1 (Value.slice ab gs.length cb).ownBlock) => hR.blk1 hg)
            have hRa := Lib.hid (fun v1 w1 => rf_app (v1 := v1) (w1 := w1) (gs := [bt]) hR)
            clear hN0 e5
            generalize hu : bb bt = u at *
            have hu' := Lib.hid hu; clear hu
            have ga0 := (World.cell?_alloc_lt wr (.cells #[.int .u8 (u.toNat : Int)] 5) ⟨w.heap.size, 0, none⟩ hR.lt).trans g0
            go_wp2_with fail
            go_region_law (refine step_appB_at rfl _ _ 22 (by rfl) w.heap.size 5 i0 _ 1 Try.underlying22 hi'.out hz0 hz1 hz2 rfl (.slice ab gs.length cb) gs.length _ rfl hoW.out (some ⟨wr.heap.size, 0, none⟩) 1 1 [u] rfl hN1.out (by unfold maxLen; omega) (by omega) (Nat.le_trans hb.size hW.out.size) ?_; intro v1 w1 ho1 hg1 hn1; have gb := hRb.out _ (grown_of hW.out hg1); obtain ⟨hR2, hB2, a2, c2, rfl⟩ := hRa.out v1 w1 (by simp; omega) (own_congr ho1 (by rfl) (by simp [hu'.out])) (grown_of hW.out hg1);  have gc0 := gb.cell 0; have gf0 := gb.free 0 none; simp only [List.getElem?_toArray, List.getElem?_cons_zero] at gc0)
            all_goals go_wp2_with fail
            all_goals go_roundw
            all_goals first | exact ⟨k + 1, _, by omega, by go_num, by rw [show 8 * i + (k + 1) = 8 * i + k + 1 by omega, ht'.out]; exact hR2, below_frame hb hB2 (fun j _ hj => (hR.foot (Nat.le_refl _) j hj).1) hb.size⟩ | (simp [intOf]; omega)
        · obtain rfl : k = 8 := by omega
          go_wp2_with fail
          go_roundw
          case rel => exact ⟨i + 1, v', by omega, by go_num, by rw [show 8 * (i + 1) = 8 * i + 8 by omega]; exact hR, hb⟩
          case measure => simp [intOf]; omega
    · obtain rfl : i = n := by omega
      go_wp2_with fail
      go_ret
      refine ⟨v', rfl, ?_, hb⟩
      rw [List.take_of_length_le (by rw [unpackB_length]; omega)] at hR
      exact hR
end Go.Proofs.Ytdfoimgckahjpaa
