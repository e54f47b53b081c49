/-
  The walk of the statement BitsParts. No conditions.
-/
import Derived.Test.YtdfoimgckahjpaaBitsTwo
import Derived.Test.YtdfoimgckahjpaaWf
namespace Go.Proofs.Ytdfoimgckahjpaa
open Go.RowKit
theorem list_ext_getD {l1 l2 : List Bool} (hl : l1.length = l2.length) (h : ∀ i, i < l1.length → l1.getD i false = l2.getD i false) : l1 = l2 := by
  apply List.ext_getElem hl
  intro i h1 h2
  have := h i h1
  simpa [List.getD_eq_getElem?_getD, h1, h2] using this
/-- the lower m bits -/
def lowB (v m : Nat) : Nat := v &&& (2 ^ m - 1)
theorem lowB_bit (v m j : Nat) : (lowB v m).testBit j = (v.testBit j && decide (j < m)) := by
  rw [lowB, Nat.testBit_and, Nat.testBit_two_pow_sub_one]
theorem lowB_lt (v m : Nat) : lowB v m < 2 ^ m := by
  rw [lowB, Nat.and_two_pow_sub_one_eq_mod]; exact Nat.mod_lt _ (Nat.pow_pos (by decide))
theorem shr_lt (v n m : Nat) (hv : v < 2 ^ (n + m)) : v >>> m < 2 ^ n := by
  rw [Nat.shiftRight_eq_div_pow]
  apply Nat.div_lt_of_lt_mul
  rw [← Nat.pow_add, Nat.add_comm m n]
  exact hv
theorem parts_high (v n m : Nat) : numBits true (v >>> m) n n ++ numBits true (lowB v m) m m = numBits true v (n + m) (n + m) := by
  apply list_ext_getD
  · simp [numBits_length]
  · intro i hi
    rw [List.length_append, numBits_length, numBits_length] at hi
    rw [getD_app, numBits_length, numBits_getD, numBits_getD, numBits_getD]
    split
    · rename_i h
      rw [Nat.testBit_shiftRight]
      show (decide (i < n) && v.testBit (m + (n - 1 - i))) = (decide (i < n + m) && v.testBit (n + m - 1 - i))
      simp only [h, hi, decide_true, Bool.true_and]
      congr 1; omega
    · rename_i h
      rw [lowB_bit]
      show (decide (i - n < m) && (v.testBit (m - 1 - (i - n)) && decide (m - 1 - (i - n) < m))) = (decide (i < n + m) && v.testBit (n + m - 1 - i))
      have e1 : decide (i - n < m) = true := by simp; omega
      have e2 : decide (m - 1 - (i - n) < m) = true := by simp; omega
      simp only [e1, e2, hi, decide_true, Bool.true_and, Bool.and_true]
      congr 1; omega
theorem parts_low (v n m : Nat) : numBits false (lowB v n) n n ++ numBits false (v >>> n) m m = numBits false v (n + m) (n + m) := by
  apply list_ext_getD
  · simp [numBits_length]
  · intro i hi
    rw [List.length_append, numBits_length, numBits_length] at hi
    rw [getD_app, numBits_length, numBits_getD, numBits_getD, numBits_getD]
    split
    · rename_i h
      rw [lowB_bit]
      show (decide (i < n) && (v.testBit i && decide (i < n))) = (decide (i < n + m) && v.testBit i)
      simp [h, hi]
    · rename_i h
      rw [Nat.testBit_shiftRight]
      show (decide (i - n < m) && v.testBit (n + (i - n))) = (decide (i < n + m) && v.testBit i)
      have e1 : decide (i - n < m) = true := by simp; omega
      rw [show n + (i - n) = i by omega]
      simp [e1, hi]
theorem parts_join (v m : Nat) : (v >>> m) <<< m ||| lowB v m = v := by
  apply Nat.eq_of_testBit_eq
  intro j
  rw [Nat.testBit_or, lowB_bit, Nat.testBit_shiftLeft, Nat.testBit_shiftRight]
  by_cases h : m ≤ j
  · have e : ¬ j < m := by omega
    simp [h, e]
  · have e : j < m := by omega
    simp [h, e]
/-- the mask as the walk has it -/
theorem mask_eq (x N : Nat) (hx : x < 9223372036854775808) (hN : N ≤ 32) : bits .and .i64 (x : Int) (wrap64 ((2 : Int) ^ N) - 1) = ((lowB x N : Nat) : Int) := by
  have h1 : 0 < 2 ^ N := Nat.pow_pos (by decide)
  have h2 := pow_le32 hN
  rw [wrap_pow hN, show ((2 ^ N : Nat) : Int) - 1 = ((2 ^ N - 1 : Nat) : Int) by omega]
  exact i64_and_nat _ _ hx (by omega)
theorem pow_bd {N : Nat} (hN : N ≤ 32) : 1 ≤ wrap64 ((2 : Int) ^ N) ∧ wrap64 ((2 : Int) ^ N) ≤ 4294967296 := by
  have h1 : 0 < 2 ^ N := Nat.pow_pos (by decide)
  have h2 := pow_le32 hN
  rw [wrap_pow hN]
  omega
theorem join_eq (p q m : Nat) (hp : p <<< m < 4294967296) (hq : q < 4294967296) : bits .or .i64 (wrap64 ((p : Int) * 2 ^ m)) (q : Int) = ((p <<< m ||| q : Nat) : Int) := by
  have h3 : (p : Int) * 2 ^ m = ((p <<< m : Nat) : Int) := by rw [Nat.shiftLeft_eq]; simp
  rw [h3]
  generalize p <<< m = y at *
  rw [wrap64_in _ (by omega)]
  exact i64_or_nat _ _ (by omega) (by omega)
set_option maxRecDepth 100000 in
set_option maxHeartbeats 1000000 in
theorem parts_any (x a b : Nat) (w : World) (hx : x < 4294967296) (ha : a < 256) (hb : b < 256) :
    Calls Try.prog 6 #[.int .u32 (x : Int), .int .u8 (a : Int), .int .u8 (b : Int)] w fun e w' => e = .returned (.bool true) ∧ Below w.heap.size w w' := by
  have hn : a % 17 ≤ 16 := by omega
  have hm : b % 17 ≤ 16 := by omega
  have en : (a : Int) % 17 = ((a % 17 : Nat) : Int) := by omega
  have em : (b : Int) % 17 = ((b % 17 : Nat) : Int) := by omega
  generalize a % 17 = n at *
  generalize b % 17 = m at *
  have bnm := pow_bd (show n + m ≤ 32 by omega)
  have bm := pow_bd (show m ≤ 32 by omega)
  have bn := pow_bd (show n ≤ 32 by omega)
  have knm := mask_eq x (n + m) (by omega) (by omega)
  have hv := lowB_lt x (n + m)
  have hv32 : lowB x (n + m) < 4294967296 := Nat.lt_of_lt_of_le hv (pow_le32 (by omega))
  generalize lowB x (n + m) = v at *
  have km := mask_eq v m (by omega) (by omega)
  have kn := mask_eq v n (by omega) (by omega)
  have dm : (v : Int) / 2 ^ m = ((v >>> m : Nat) : Int) := by rw [Nat.shiftRight_eq_div_pow]; simp
  have dn : (v : Int) / 2 ^ n = ((v >>> n : Nat) : Int) := by rw [Nat.shiftRight_eq_div_pow]; simp
  have b_tm := shr_lt v n m hv
  have b_tn := shr_lt v m n (by rw [Nat.add_comm]; exact hv)
  have b_lm := lowB_lt v m
  have b_ln := lowB_lt v n
  have PH := Lib.hid (parts_high v n m)
  have PL := Lib.hid (parts_low v n m)
  have jm := parts_join v m
  have jn := parts_join v n
  generalize v >>> m = tm at *
  generalize v >>> n = tn at *
  generalize lowB v m = lm at *
  generalize lowB v n = ln at *
  have l1 := Nat.lt_of_lt_of_le b_lm (pow_le32 (show m ≤ 32 by omega))
  have l2 := Nat.lt_of_lt_of_le b_ln (pow_le32 (show n ≤ 32 by omega))
  have l3 := Nat.lt_of_lt_of_le b_tm (pow_le32 (show n ≤ 32 by omega))
  have l4 := Nat.lt_of_lt_of_le b_tn (pow_le32 (show m ≤ 32 by omega))
  have JH := join_eq tm lm m (Nat.lt_of_le_of_lt (by rw [← jm]; exact Nat.left_le_or) hv32) l1
  have JL := join_eq tn ln n (Nat.lt_of_le_of_lt (by rw [← jn]; exact Nat.left_le_or) hv32) l2
  rw [jm] at JH
  rw [jn] at JL
  clear jm jn
  have r1true := num_read true [] (numBits true lm m m) tm n b_tm
  rw [List.nil_append, PH.out, List.length_nil] at r1true
  have R1true := Lib.hid r1true; clear r1true
  have r2true := num_read true (numBits true tm n n) [] lm m b_lm
  rw [List.append_nil, PH.out, numBits_length] at r2true
  have R2true := Lib.hid r2true; clear r2true
  have r1false := num_read false [] (numBits false tn m m) ln n b_ln
  rw [List.nil_append, PL.out, List.length_nil] at r1false
  have R1false := Lib.hid r1false; clear r1false
  have r2false := num_read false (numBits false ln n n) [] tn m b_tn
  rw [List.append_nil, PL.out, numBits_length] at r2false
  have R2false := Lib.hid r2false; clear r2false
  go_enter Try.func6, Try.ntmps6
  go_wp2_with (go_at_call 15; refine (awake_any _).mono ?_; rintro e w1 ⟨rfl, hb1⟩)
  simp only [en, em]
  clear en em knm bnm
  go_loopw [10] (fun i wr => (i = .int .i64 0 ∨ i = .int .i64 1 ∨ i = .int .i64 2) ∧ Below w.heap.size w wr) (fun i _ => 2 - (intOf i).toNat)
  case atStart => exact ⟨.inl rfl, hb1⟩
  case round =>
    obtain ⟨hi, hb⟩ := hrel
    have sr := hb.size
    rcases hi with rfl | rfl | rfl
    · go_wp2_with fail
      refine (new_writer false wr).mono ?_
      rintro e w2 ⟨rfl, hU, hb2'⟩
      have hb2 := hb.trans (hb2'.mono hb.size)
      have s2 := hb2'.size
      go_wp2_with fail
      refine (new_writer false w2).mono ?_
      rintro e w3 ⟨rfl, hV, hb3'⟩
      have hU3 := hU.below hb3'
      have hb3 := hb2.trans (hb3'.mono hb2.size)
      have s3 := hb3'.size
      have hne : w2.heap.size ≠ wr.heap.size := by have := hU.lt; omega
      clear hU hb2' hb3'
      have pU := put_yes hU3 v (n + m) (by omega) hv (by omega) (by simp; omega)
      rw [Int.natCast_add] at pU
      have pU' := Lib.hid pU; clear pU
      go_wp2_with fail
      refine pU'.out.mono ?_
      rintro e w4 ⟨u4, rfl, hU4, hB4, -⟩
      have hV4 := hV.other hU3 hB4 hne (Apart.nil _)
      have hb4 := below_frame hb3 hB4 (fun k _ hk => Nat.le_trans sr (hU3.foot (Nat.le_refl _) k hk).1) hb3.size
      have s4 := hB4.size
      clear hU3 hV hB4 pU'
      have q1 := Lib.hid (put_yes hV4 ln n (by omega) b_ln (by omega) (by simp; omega))
      go_wp2_with fail
      refine q1.out.mono ?_
      rintro e w5 ⟨v5, rfl, hV5, hB5, hn5⟩
      have hU5 := hU4.other hV4 hB5 (Ne.symm hne) (Apart.nil _).symm
      have ap5 : Apart v5 u4 := ((Apart.nil u4).symm.next hU4.vsize hn5).symm
      have hb5 := below_frame hb4 hB5 (fun k _ hk => by have := (hV4.foot (Nat.le_refl _) k hk).1; omega) hb4.size
      have s5 := hB5.size
      clear hU4 hV4 hB5 hn5 q1
      have q2 := Lib.hid (put_yes hV5 tn m (by omega) b_tn (by omega) (by simp [numBits_length]; omega))
      go_wp2_with fail
      refine q2.out.mono ?_
      rintro e w6 ⟨v6, rfl, hV6, hB6, hn6⟩
      have hU6 := hU5.other hV5 hB6 (Ne.symm hne) ap5.symm
      have hb6 := below_frame hb5 hB6 (fun k _ hk => by have := (hV5.foot (Nat.le_refl _) k hk).1; omega) hb5.size
      have s6 := hB6.size
      rw [List.nil_append, PL.out] at hV6
      rw [List.nil_append] at hU6
      clear hU5 hV5 hB6 hn6 q2 ap5
      go_wp2_with fail
      refine (wbytes_any hU6).mono ?_
      rintro e w7 ⟨a7, c7, rfl, ho7, hb7'⟩
      have hU7 := hU6.below hb7'
      have hV7 := hV6.below hb7'
      have hb7 := hb6.trans (hb7'.mono hb6.size)
      clear hU6 hV6 hb7'
      go_wp2_with fail
      refine (wbytes_any hV7).mono ?_
      rintro e w8 ⟨a8, c8, rfl, ho8, hb8'⟩
      have hU8 := hU7.below hb8'
      have ho78 := own_below ho7 hb8'
      have hb8 := hb7.trans (hb8'.mono hb7.size)
      clear hU7 hV7 hb8' ho7
      have hlp := packB_length false (numBits false v (n + m) (n + m))
      rw [numBits_length] at hlp
      have hlp' := Lib.hid hlp; clear hlp
      go_wp2_with fail
      refine (same_any _ _ _ _ _ _ _ _ _ (own_bts ho78 (by have := hlp'.out; omega)) (own_bts ho8 (by have := hlp'.out; omega))).mono ?_
      rintro e w9 ⟨rfl, hb9'⟩
      have hU9 := hU8.below hb9'
      have hb9 := hb8.trans (hb9'.mono hb8.size)
      have hd : decide (packB false (numBits false v (n + m) (n + m)) = packB false (numBits false v (n + m) (n + m))) = true := decide_eq_true rfl
      have hln := len_any hU9
      rw [numBits_length, Int.natCast_add] at hln
      have hln' := Lib.hid hln
      clear hU8 hb9' ho78 ho8 hln
      go_wp2_with fail
      refine hln'.out.mono ?_
      rintro e w10 ⟨rfl, rfl⟩
      clear hln' hd
      go_wp2_with fail
      refine (wbytes_any hU9).mono ?_
      rintro e w11 ⟨a11, c11, rfl, ho11, hb11'⟩
      have hb11 := hb9.trans (hb11'.mono hb9.size)
      have hB11 := own_bts ho11 (by have := hlp'.out; omega)
      clear hU9 hb11' ho11
      go_wp2_with fail
      refine (new_reader _ _ _ _ false _ hB11 (by have := hlp'.out; omega)).mono ?_
      rintro e w12 ⟨b12, a12, c12, rfl, hR12, hl12, -, hb12'⟩
      have hb12 := hb11.trans (hb12'.mono hb11.size)
      have hlb := hb11.size
      clear hB11 hb12'
      have t1 := take_yes hR12 n (by omega) (by have := hlp'.out; omega)
      rw [R1false.out] at t1
      have t1' := Lib.hid t1; clear t1
      go_wp2_with fail
      refine t1'.out.mono ?_
      rintro e w13 ⟨rfl, hR13, hg13⟩
      have hb13 := below_grow hb12 hg13 hb12.size (by omega)
      clear hR12 hg13 t1'
      rw [Nat.zero_add] at hR13
      have t2 := take_yes hR13 m (by omega) (by have := hlp'.out; omega)
      rw [R2false.out] at t2
      have t2' := Lib.hid t2; clear t2
      go_wp2_with fail
      refine t2'.out.mono ?_
      rintro e w14 ⟨rfl, hR14, hg14⟩
      have hb14 := below_grow hb13 hg14 hb13.size (by omega)
      clear hR13 hg14 t2' hR14 hlp'
      go_wp2_with fail
      go_roundw
      case rel => exact ⟨.inr (.inl rfl), hb14⟩
      case measure => simp [intOf]
    · go_wp2_with fail
      refine (new_writer true wr).mono ?_
      rintro e w2 ⟨rfl, hU, hb2'⟩
      have hb2 := hb.trans (hb2'.mono hb.size)
      have s2 := hb2'.size
      go_wp2_with fail
      refine (new_writer true w2).mono ?_
      rintro e w3 ⟨rfl, hV, hb3'⟩
      have hU3 := hU.below hb3'
      have hb3 := hb2.trans (hb3'.mono hb2.size)
      have s3 := hb3'.size
      have hne : w2.heap.size ≠ wr.heap.size := by have := hU.lt; omega
      clear hU hb2' hb3'
      have pU := put_yes hU3 v (n + m) (by omega) hv (by omega) (by simp; omega)
      rw [Int.natCast_add] at pU
      have pU' := Lib.hid pU; clear pU
      go_wp2_with fail
      refine pU'.out.mono ?_
      rintro e w4 ⟨u4, rfl, hU4, hB4, -⟩
      have hV4 := hV.other hU3 hB4 hne (Apart.nil _)
      have hb4 := below_frame hb3 hB4 (fun k _ hk => Nat.le_trans sr (hU3.foot (Nat.le_refl _) k hk).1) hb3.size
      have s4 := hB4.size
      clear hU3 hV hB4 pU'
      have q1 := Lib.hid (put_yes hV4 tm n (by omega) b_tm (by omega) (by simp; omega))
      go_wp2_with fail
      refine q1.out.mono ?_
      rintro e w5 ⟨v5, rfl, hV5, hB5, hn5⟩
      have hU5 := hU4.other hV4 hB5 (Ne.symm hne) (Apart.nil _).symm
      have ap5 : Apart v5 u4 := ((Apart.nil u4).symm.next hU4.vsize hn5).symm
      have hb5 := below_frame hb4 hB5 (fun k _ hk => by have := (hV4.foot (Nat.le_refl _) k hk).1; omega) hb4.size
      have s5 := hB5.size
      clear hU4 hV4 hB5 hn5 q1
      have q2 := Lib.hid (put_yes hV5 lm m (by omega) b_lm (by omega) (by simp [numBits_length]; omega))
      go_wp2_with fail
      refine q2.out.mono ?_
      rintro e w6 ⟨v6, rfl, hV6, hB6, hn6⟩
      have hU6 := hU5.other hV5 hB6 (Ne.symm hne) ap5.symm
      have hb6 := below_frame hb5 hB6 (fun k _ hk => by have := (hV5.foot (Nat.le_refl _) k hk).1; omega) hb5.size
      have s6 := hB6.size
      rw [List.nil_append, PH.out] at hV6
      rw [List.nil_append] at hU6
      clear hU5 hV5 hB6 hn6 q2 ap5
      go_wp2_with fail
      refine (wbytes_any hU6).mono ?_
      rintro e w7 ⟨a7, c7, rfl, ho7, hb7'⟩
      have hU7 := hU6.below hb7'
      have hV7 := hV6.below hb7'
      have hb7 := hb6.trans (hb7'.mono hb6.size)
      clear hU6 hV6 hb7'
      go_wp2_with fail
      refine (wbytes_any hV7).mono ?_
      rintro e w8 ⟨a8, c8, rfl, ho8, hb8'⟩
      have hU8 := hU7.below hb8'
      have ho78 := own_below ho7 hb8'
      have hb8 := hb7.trans (hb8'.mono hb7.size)
      clear hU7 hV7 hb8' ho7
      have hlp := packB_length true (numBits true v (n + m) (n + m))
      rw [numBits_length] at hlp
      have hlp' := Lib.hid hlp; clear hlp
      go_wp2_with fail
      refine (same_any _ _ _ _ _ _ _ _ _ (own_bts ho78 (by have := hlp'.out; omega)) (own_bts ho8 (by have := hlp'.out; omega))).mono ?_
      rintro e w9 ⟨rfl, hb9'⟩
      have hU9 := hU8.below hb9'
      have hb9 := hb8.trans (hb9'.mono hb8.size)
      have hd : decide (packB true (numBits true v (n + m) (n + m)) = packB true (numBits true v (n + m) (n + m))) = true := decide_eq_true rfl
      have hln := len_any hU9
      rw [numBits_length, Int.natCast_add] at hln
      have hln' := Lib.hid hln
      clear hU8 hb9' ho78 ho8 hln
      go_wp2_with fail
      refine hln'.out.mono ?_
      rintro e w10 ⟨rfl, rfl⟩
      clear hln' hd
      go_wp2_with fail
      refine (wbytes_any hU9).mono ?_
      rintro e w11 ⟨a11, c11, rfl, ho11, hb11'⟩
      have hb11 := hb9.trans (hb11'.mono hb9.size)
      have hB11 := own_bts ho11 (by have := hlp'.out; omega)
      clear hU9 hb11' ho11
      go_wp2_with fail
      refine (new_reader _ _ _ _ true _ hB11 (by have := hlp'.out; omega)).mono ?_
      rintro e w12 ⟨b12, a12, c12, rfl, hR12, hl12, -, hb12'⟩
      have hb12 := hb11.trans (hb12'.mono hb11.size)
      have hlb := hb11.size
      clear hB11 hb12'
      have t1 := take_yes hR12 n (by omega) (by have := hlp'.out; omega)
      rw [R1true.out] at t1
      have t1' := Lib.hid t1; clear t1
      go_wp2_with fail
      refine t1'.out.mono ?_
      rintro e w13 ⟨rfl, hR13, hg13⟩
      have hb13 := below_grow hb12 hg13 hb12.size (by omega)
      clear hR12 hg13 t1'
      rw [Nat.zero_add] at hR13
      have t2 := take_yes hR13 m (by omega) (by have := hlp'.out; omega)
      rw [R2true.out] at t2
      have t2' := Lib.hid t2; clear t2
      go_wp2_with fail
      refine t2'.out.mono ?_
      rintro e w14 ⟨rfl, hR14, hg14⟩
      have hb14 := below_grow hb13 hg14 hb13.size (by omega)
      clear hR13 hg14 t2' hR14 hlp'
      go_wp2_with fail
      go_roundw
      case rel => exact ⟨.inr (.inr rfl), hb14⟩
      case measure => simp [intOf]
    · go_wp2_with fail
      go_ret
      exact ⟨rfl, hb⟩
theorem parts_int (x a b : Int) (w : World) (hx : (Lit.int .u32 x).wf = true) (ha : (Lit.int .u8 a).wf = true) (hb : (Lit.int .u8 b).wf = true) :
    Calls Try.prog 6 #[.int .u32 x, .int .u8 a, .int .u8 b] w fun e w' => e = .returned (.bool true) ∧ Below w.heap.size w w' := by
  obtain ⟨x, rfl, h1⟩ := nat_u32 hx
  obtain ⟨a, rfl, h2⟩ := nat_u8 ha
  obtain ⟨b, rfl, h3⟩ := nat_u8 hb
  exact parts_any x a b w h1 h2 h3
end Go.Proofs.Ytdfoimgckahjpaa
