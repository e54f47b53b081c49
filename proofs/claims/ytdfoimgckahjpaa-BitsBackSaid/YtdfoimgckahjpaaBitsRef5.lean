/-
  The walks of the reference's bits: whole bytes read, whole bytes added, all bytes. Conditions: the slices read as bytes.
-/
import Derived.Test.YtdfoimgckahjpaaBitsRef4
import Derived.Test.YtdfoimgckahjpaaBitsWr
namespace Go.Proofs.Ytdfoimgckahjpaa
open Go.RowKit
attribute [local go_sem ↓] Go.wp_at_zero Go.wp_at_succ
section
variable {w w' : World} {S b : Nat} {v : Value} {high : Bool} {fs : List Bool} {at_ : Nat}
theorem rbytes_no (h : Rf w S b v high fs at_) (h8 : fs.length % 8 = 0) (N : Int) (hN : N < 0 ∨ ((fs.length / 8 - (at_ + 7) / 8 : Nat) : Int) < N) :
    Calls Try.prog 40 #[.pointer (some ⟨b, 0, none⟩), .int .i64 N] w fun e w' => e = .returned (.tuple #[.slice none 0 0, .bool false]) ∧ Rf w' S b v high fs ((at_ + 7) / 8 * 8) ∧ w.grownBy w' (some b) := by
  by_cases h1 : N < 0
  · go_enter Try.func40, Try.ntmps40
    go_wp2_with (go_at_call 38; refine (ralign_any h h8).mono ?_; rintro e w1 ⟨rfl, h1, hg1⟩)
    go_ret2
    exact ⟨rfl, h1, hg1⟩
  · have h2 : ((fs.length / 8 - (at_ + 7) / 8 : Nat) : Int) < N := by omega
    generalize hx : (fs.length - (at_ + 7) / 8 * 8 : Nat) = x
    have hx2 : (x : Int) / 8 < N := by omega
    have hxb : x ≤ 1099511627776 := by have := h.few; omega
    have hal := Lib.hid (ralign_any h h8)
    clear h8
    go_enter Try.func40, Try.ntmps40
    go_wp2_with (go_at_call 38; refine hal.out.mono ?_; rintro e w1 ⟨rfl, hR, hg1⟩)
    have hlf := rleft_any hR
    rw [hx] at hlf
    refine hlf.mono ?_
    rintro e w2 ⟨rfl, m, rfl⟩
    have h3 := hR.drewN m
    have hg3 := grown_trans hg1 (grown_drewN _ m (some b))
    go_wp2_with fail
    go_ret2
    exact ⟨rfl, h3, hg3⟩
theorem grown_row {w w1 w2 : World} {r r2 : Option Nat} (h : w.grownBy w1 r) (k : w1.grownBy w2 r2) (hr : ∀ i, r2 = some i → w.heap.size ≤ i) : w.grownBy w2 r :=
  ⟨k.os.trans h.os, k.tape.trans h.tape, k.output.trans h.output, Nat.le_trans h.size k.size, fun i hi hn => (k.block i (Nat.lt_of_lt_of_le hi h.size) (fun e => by have := hr i e.symm; omega)).trans (h.block i hi hn)⟩
/-- what the reference's Bytes answers -/
def RGotBytes (w : World) (S b : Nat) (v : Value) (high : Bool) (fs : List Bool) (q k : Nat) (e : Ending) (w' : World) : Prop :=
  ∃ v', e = .returned (.tuple #[v', .bool true]) ∧ w'.ownsRow w.heap.size 5 1 v' k ((((packB high fs).take (q + k)).drop q).map bv) ∧ Rf w' S b v high fs (8 * (q + k)) ∧ w.grownBy w' (some b)
theorem take_drop_snoc (l : List UInt8) (q j : Nat) (h : q + j < l.length) : (l.take (q + (j + 1))).drop q = (l.take (q + j)).drop q ++ [l.getD (q + j) 0] := by
  rw [show q + (j + 1) = q + j + 1 by omega, List.take_succ_eq_append_getElem h, List.drop_append_of_le_length (by simp; omega)]
  simp [List.getD_eq_getElem?_getD, h]
set_option maxRecDepth 100000 in
set_option maxHeartbeats 1000000 in
theorem rbytes_yes (h : Rf w S b v high fs at_) (h8 : fs.length % 8 = 0) (k q : Nat) (hq : (at_ + 7) / 8 = q) (hk : q + k ≤ fs.length / 8) (hS : b < w.heap.size) :
    Calls Try.prog 40 #[.pointer (some ⟨b, 0, none⟩), .int .i64 (k : Int)] w (RGotBytes w S b v high fs q k) := by
  have hf := h.few
  have hvb := Lib.hid (fun i (hi : v.ownBlock = some i) => (h.own.lt i hi).2)
  have hal := ralign_any h h8
  rw [hq] at hal
  have hal' := Lib.hid hal
  have h8' := Lib.hid h8
  clear h8 hal hq h
  generalize hx : (fs.length - q * 8 : Nat) = x
  have hx2 : ¬ (x : Int) / 8 < (k : Int) := by omega
  have hxb : x ≤ 1099511627776 := by omega
  have hx' := Lib.hid hx; clear hx
  obtain ⟨i0, hi, hz0, hz1, hz2⟩ := info_parts Try.info5
  have hi' := Lib.hid hi; clear hi
  go_enter Try.func40, Try.ntmps40
  go_wp2_with (go_at_call 38; refine hal'.out.mono ?_; rintro e w1 ⟨rfl, hR, hg1⟩)
  have hlf := rleft_any hR
  rw [hx'.out] at hlf
  refine hlf.mono ?_
  rintro e w2 ⟨rfl, m, rfl⟩
  have h3 := hR.drewN m
  have hg3 := grown_trans hg1 (grown_drewN _ m (some b))
  clear hlf hR hg1
  generalize w1.drewN m = w3 at *
  rw [Nat.mul_comm] at h3
  go_wp2_with fail
  go_loopw [6, 7] (fun o i wr => ∃ j : Nat, j ≤ k ∧ i = .int .i64 j ∧ wr.ownsRow w.heap.size 5 1 o j ((((packB high fs).take (q + j)).drop q).map bv) ∧ Rf wr S b v high fs (8 * (q + j)) ∧ w.grownBy wr (some b)) (fun _ i _ => k - (intOf i).toNat)
  case atStart => exact ⟨0, by omega, rfl, own_congr (World.ownsRow_nil _ _ _ _) rfl (by simp), h3, hg3⟩
  case round =>
    clear h3 hg3
    obtain ⟨j, hj, rfl, ho, hR, hg⟩ := hrel
    by_cases hlt : j < k
    · have hl8 := packB_length high fs
      have hts := take_drop_snoc (packB high fs) q j (by have := h8'.out; omega)
      have hX := packB_getD high fs (q + j)
      have htk := rtake_yes hR 8 (by decide) (by omega)
      rw [← hX] at htk
      have htk' := Lib.hid htk; clear htk hX
      have hXl := ((packB high fs).getD (q + j) 0).toNat_lt
      generalize (packB high fs).getD (q + j) 0 = X at *
      have hts' := Lib.hid hts; clear hts
      go_wp2_with fail
      refine htk'.out.mono ?_
      rintro e w4 ⟨rfl, hR4, hg4⟩
      have ho4 := own_grown ho hg4 hS
      have hg5 := grown_trans hg hg4
      have hsz := hg5.size
      clear hR ho
      go_wp2_with (at_builtin; go_must (refine wp_app1_at rfl _ _ 22 rfl w.heap.size 5 i0 _ 1 Try.underlying22 hi'.out hz0 hz1 hz2 rfl _ _ _ rfl ho4 (.int .u8 (X.toNat : Int)) (by rfl) rfl (by unfold maxLen; omega) (by omega) hsz ?_))
      intro v5 w5 ho5 hg6 hn5
      have hrow := fun i hi => (ho4.lt i hi).1
      have hR5 := hR4.but (ButOf.of_grown (K := fun i => w.heap.size ≤ i) hg6 hrow) (by omega) (fun i hi => by have := hvb.out i hi; omega)
      have hg7 := grown_row hg5 hg6 hrow
      rw [← List.map_take, ← List.map_drop] at ho5
      have ho7 : w5.ownsRow w.heap.size 5 1 v5 (j + 1) ((((packB high fs).take (q + (j + 1))).drop q).map bv) := by
        rw [hts'.out]; exact own_congr ho5 rfl (by rw [List.map_append]; rfl)
      clear ho5 ho4 hrow hR4 hg4 hg5 hg6 hn5
      go_wp2_with fail
      go_roundw
      case rel => exact ⟨j + 1, by omega, by go_num, ho7, by rw [show 8 * (q + (j + 1)) = 8 * (q + j) + 8 by omega]; exact hR5, hg7⟩
      case measure => simp [intOf]; omega
    · obtain rfl : j = k := by omega
      go_wp2_with fail
      go_ret2
      exact ⟨_, rfl, ho, hR, hg⟩
set_option maxHeartbeats 1000000 in
theorem radd_any (h : Rf w S b v high fs at_) (a2 : Option Addr) (n2 c2 : Nat) (l : List UInt8) (hB2 : Bts w a2 n2 c2 l) (hroom : fs.length + 8 * n2 ≤ 1099511627) (hS : S ≤ w.heap.size)
    (hsep : 0 < n2 → ∀ x, a2 = some x → x.block < S) (hSb : S ≤ b) :
    Calls Try.prog 32 #[.pointer (some ⟨b, 0, none⟩), .slice a2 n2 c2] w (RWrote w S b v high (fill8 fs ++ unpackB high l) at_ (.tuple #[])) := by
  have hl2 := hB2.len
  have hfl := fill8_length fs
  have hul := unpackB_length high l
  obtain ⟨i0, hi, hz0, hz1, hz2⟩ := info_parts Try.info5
  have hi' := Lib.hid hi; clear hi
  go_enter Try.func32, Try.ntmps32
  go_wp2_with fail
  refine (rfill_any h (by omega) hS).mono ?_
  rintro e w1 ⟨v1, rfl, hR1, hb1, hn1⟩
  have hft := h.foot hSb
  have hB1 := hB2.but hb1 (fun hn x hx hk => by have := hsep hn x hx; have := (hft _ hk).1; omega)
  have g2 := hR1.blk.cell 2
  simp only [List.getElem?_toArray, List.getElem?_cons_zero, List.getElem?_cons_succ] at g2
  clear hB2 h hft hsep
  go_wp2_with fail
  refine (ropen_any a2 n2 c2 l high w1 hB1 (by omega)).mono ?_
  rintro e w2 ⟨v2, rfl, hR2, hb2⟩
  have hR3 := hR1.below hb2
  have hb3 : ButOf (Foot b v) w w2 := hb1.trans (ButOf.of_below hb2)
  have hlt1 := hR1.lt
  have hs1 := hb1.size
  have hs2 := hb2.size
  obtain ⟨a1, c1, rfl, -⟩ := hR1.shape
  obtain ⟨a3, c3, rfl, hB3⟩ := hR2.shape
  clear hR1 hb1 hB1 g2 hb2
  have g0 := hR3.blk.cell 0
  have g1 := hR2.blk.cell 0
  simp only [List.getElem?_toArray, List.getElem?_cons_zero] at g0 g1
  have hRb := Lib.hid (fun w1 (hg : w2.grownBy w1 (Value.slice a1 (fill8 fs).length c1).ownBlock) => hR3.blk1 hg)
  have hRa := Lib.hid (fun v1 w1 => rf_app (v1 := v1) (w1 := w1) (gs := unpackB high l) hR3)
  have hoW := Lib.hid hR3.own
  have hBW := Lib.hid hB3.drew
  have hD := Lib.hid (Below.refl w2.heap.size w2).drew
  generalize hfs8 : fill8 fs = gs at *
  have hfs8' := Lib.hid hfs8; clear hfs8
  generalize hus8 : unpackB high l = us at *
  have hus8' := Lib.hid hus8; clear hus8
  have hgb : gs.length + us.length ≤ 1099511700 := by omega
  clear hfl hul
  go_wp2_with fail
  go_region_law (refine step_appB_at rfl _ _ 22 (by rfl) S 5 i0 _ 1 Try.underlying22 hi'.out hz0 hz1 hz2 rfl (.slice a1 gs.length c1) gs.length _ rfl hoW.out.drew a3 us.length c3 (us.map bb) rfl hBW.out (by unfold maxLen; omega) (by omega) (Nat.le_trans hS (Nat.le_trans hs1 hs2)) ?_; intro v1 w5 ho1 hg1' hn1'; have hg1 := grown_of hD.out hg1'; have gb := hRb.out _ hg1; obtain ⟨hR5, hB5, a5, c5, rfl⟩ := hRa.out v1 w5 (by omega) ho1 hg1;  have gc0 := gb.cell 0; have gf0 := gb.free 0 none; simp only [List.getElem?_toArray, List.getElem?_cons_zero] at gc0)
  all_goals go_end0
  all_goals exact ⟨_, rfl, hR5, hb3.next hB5 hn1, hn1.trans (Next.of_below hn1' (Nat.le_refl _)) (Nat.le_trans hs1 hs2)⟩
set_option maxRecDepth 100000 in
set_option maxHeartbeats 1000000 in
theorem rout_any (h : Rf w S b v high fs at_) (hroom : fs.length ≤ 1099511627) :
    Calls Try.prog 33 #[.pointer (some ⟨b, 0, none⟩)] w (WroteOut w (packB high fs)) := by
  obtain ⟨a1, c1, rfl, hB1⟩ := h.shape
  have hfl := fill8_length fs
  have hpl := packB_length high fs
  have g0 := h.blk.cell 0
  have g2 := h.blk.cell 2
  simp only [List.getElem?_toArray, List.getElem?_cons_zero, List.getElem?_cons_succ] at g0 g2
  have ga0 := (World.cell?_alloc_lt w (.cells #[.slice none 0 0, .int .i64 0, .bool high] 52) ⟨b, 0, none⟩ h.lt).trans g0
  have h0 : Rf (w.alloc (.cells #[.slice none 0 0, .int .i64 0, .bool high] 52)) w.heap.size w.heap.size (.slice none 0 0) high [] 0 :=
    ⟨Blk.new w _ _, World.ownsRow_nil _ _ _ _, by simp, by simp⟩
  have hb0 := below_alloc (Below.refl w.heap.size w) (.cells #[.slice none 0 0, .int .i64 0, .bool high] 52) (Nat.le_refl _)
  have hB2 := hB1.below hb0 (Nat.le_refl _)
  obtain ⟨i0, hi, hz0, hz1, hz2⟩ := info_parts Try.info5
  have hi' := Lib.hid hi; clear hi
  go_enter Try.func33, Try.ntmps33
  go_wp2_with fail
  clear g0 g2 h hB1
  generalize w.alloc (.cells #[.slice none 0 0, .int .i64 0, .bool high] 52) = w2 at *
  have k0 := h0.blk.cell 0
  simp only [List.getElem?_toArray, List.getElem?_cons_zero] at k0
  have hRb := Lib.hid (fun w1 (hg : w2.grownBy w1 (Value.slice none 0 0).ownBlock) => h0.blk1 hg)
  have hRa := Lib.hid (fun v1 w1 => rf_app (v1 := v1) (w1 := w1) (gs := fs) h0)
  have hBW := Lib.hid hB2.drew
  have hD := Lib.hid (Below.refl w2.heap.size w2).drew
  have hs2 := hb0.size
  have hft := Lib.hid (h0.foot (Nat.le_refl _))
  have hfl' := Lib.hid hfl; clear hfl
  have hpl' := Lib.hid hpl; clear hpl
  go_region_law (refine step_appB_at rfl _ _ 22 (by rfl) w.heap.size 5 i0 _ 1 Try.underlying22 hi'.out hz0 hz1 hz2 rfl (.slice none 0 0) 0 [] rfl (World.ownsRow_nil _ _ _ _) a1 fs.length c1 (fs.map bb) rfl hBW.out (by unfold maxLen; omega) (by omega) hs2 ?_; intro v1 w5 ho1 hg1' hn1'; have hg1 := grown_of hD.out hg1'; have gb := hRb.out _ hg1; obtain ⟨hR5, hB5, a5, c5, rfl⟩ := hRa.out v1 w5 (by simp; omega) ho1 hg1;  have gc0 := gb.cell 0; have gf0 := gb.free 0 none; simp only [List.getElem?_toArray, List.getElem?_cons_zero] at gc0)
  all_goals
    have hb5 := below_frame hb0 hB5 (fun j _ hj => (hft.out j hj).1) hs2
    rw [List.nil_append] at hR5
    simp only [List.length_nil, Nat.zero_add] at hR5 hb5
    clear hB5 hn1' ho1 hg1 hg1' gb gc0 gf0
    generalize w5.setCell ⟨w.heap.size, 0, none⟩ (.slice a5 fs.length c5) = w6 at *
    go_wp2_with fail
    refine (rfill_any hR5 (by omega) hb5.size).mono ?_
    rintro e w7 ⟨v7, rfl, hR7, hB7, -⟩
    have hb7 := below_frame hb5 hB7 (fun j _ hj => (hR5.foot (Nat.le_refl _) j hj).1) hb5.size
    obtain ⟨a7, c7, rfl, -⟩ := hR7.shape
    have g7 := hR7.blk.cell 0
    simp only [List.getElem?_toArray, List.getElem?_cons_zero] at g7
    have hk1 := hfl'.out
    have hk2 := hpl'.out
    have hk3 : (packB high (fill8 fs)) = packB high fs := packB_fill8 high fs
    have hfb : (fill8 fs).length ≤ 1099511627776 := by omega
    generalize (fs.length + 7) / 8 = k at *
    have hkI : ((fill8 fs).length : Int) / 8 = (k : Int) := by omega
    have hrb := rbytes_yes hR7 (by omega) k 0 rfl (by omega) hR7.lt
    have hrb' := Lib.hid hrb
    have hk1' := Lib.hid hk1
    have hk2' := Lib.hid hk2
    have hk3' := Lib.hid hk3
    clear hk1 hk2 hk3 hrb hR5 hB7
    generalize hfe : fill8 fs = gs at *
    clear hfe
    go_wp2_with fail
    refine hrb'.out.mono ?_
    rintro e w8 ⟨v8, rfl, ho8, hR8, hg8⟩
    have hb8 := below_grow hb7 hg8 hb7.size (Nat.le_refl _)
    have ho9 := own_mono ho8 hb7.size
    rw [hk3'.out, Nat.zero_add, List.drop_zero, List.take_of_length_le (by rw [hk2'.out]; exact Nat.le_refl _)] at ho9
    obtain ⟨a9, c9, rfl, -⟩ := Bts.of_own ho9 (by have := hk1'.out; omega)
    clear ho8 hg8 hkI g7
    go_wp2_with fail
    go_ret
    refine ⟨a9, c9, ?_, ?_, hb8⟩
    · rw [hk2'.out]; rfl
    · rw [hk2'.out]; exact ho9
end
end Go.Proofs.Ytdfoimgckahjpaa
