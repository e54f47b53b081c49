/-
  The walks of the statements of layer 2. No conditions.
-/
import Derived.Test.YteefnbgcbjeffaaFcsRef2
namespace Go.Proofs.Yteefnbgcbjeffaa
open Go.RowKit
set_option maxHeartbeats 400000 in
theorem awake_any (w : World) :
    Calls Try.prog 6 #[] w fun e w' => e = .returned (.bool true) ∧ Below w.heap.size w w' := by
  have hnew := Bts.new (w := w) (e := 5) (m := (0, 0)) [1, 2] (by decide)
  have hck := chk_add 2 tail16 tail16_length [1, 2]
  have hout := chkOut_add 2 tail16 tail16_length [1, 2]
  have hout' := Lib.hid hout; clear hout
  go_enter Try.func6, Try.ntmps6
  go_wp2_with (first | (go_at_call 17; refine (Add_any _ _ _ [1, 2] _ hnew (by decide)).mono ?_; rintro e w1 ⟨v1, rfl, ho1, hb1⟩; obtain ⟨a1, c1, rfl, hB1⟩ := Bts.of_own ho1 (by decide)) | (go_at_call 9; refine (Check_any a1 4 c1 _ _ hB1 (by decide)).mono ?_; rintro e w2 ⟨v2, rfl, ho2, hb2⟩; rw [hout'.out] at ho2; obtain ⟨a2, c2, rfl, hB2⟩ := Bts.of_own ho2 (by decide); obtain ⟨b2, o2, rfl, hc2⟩ := hB2.addr (by decide); have g2 := hc2 1 (by decide); simp at g2; clear hc2))
  have hb3 : Below w.heap.size w w2 := ((Below.refl _ _).alloc (Nat.le_refl _) _).trans ((hb1.mono (by simp)).trans (hb2.mono (by have := hb1.size; simp at this; omega)))
  go_ret
  exact ⟨rfl, hb3⟩

def nine : List UInt8 := [49, 50, 51, 52, 53, 54, 55, 56, 57]
theorem s16_nine : ((s16 nine : Nat) : Int) = 36974 := by decide +kernel
theorem s32_nine : ((s32 nine : Nat) : Int) = 3421780262 := by decide +kernel

set_option maxHeartbeats 400000 in
theorem known_any (w : World) :
    Calls Try.prog 4 #[] w fun e w' => e = .returned (.bool true) ∧ Below w.heap.size w w' := by
  have kc := fun (w : World) (C : Array Value) (n c : Nat) => Lib.run_convert_bytes_const (P := Try.prog) w 22 5 C n c Try.underlying22 Try.underlying5
  go_enter Try.func4, Try.ntmps4
  go_wp2_with (go_at_call 6; refine (awake_any _).mono ?_; rintro e w1 ⟨rfl, hb1⟩)
  go_wp2_with fail
  have hN := (Bts.new (w := w1) (e := 5) (m := (9, 10)) nine (by decide)).below (below_alloc (Below.refl _ _) (.cells ([1].map bv).toArray 5 (0, 0)) (Nat.le_refl _)) (Nat.le_refl _)
  have hO := Bts.new (w := w1.alloc (.cells (nine.map bv).toArray 5 (9, 10))) (e := 5) (m := (0, 0)) [1] (by decide)
  rw [alloc_size] at hO
  have hb2 : Below w.heap.size w ((w1.alloc (.cells (nine.map bv).toArray 5 (9, 10))).alloc (.cells ([1].map bv).toArray 5 (0, 0))) := below_alloc (below_alloc hb1 _ (Nat.le_refl _)) _ (Nat.le_refl _)
  change Calls _ _ _ ((w1.alloc (.cells (nine.map bv).toArray 5 (9, 10))).alloc (.cells ([1].map bv).toArray 5 (0, 0))) _
  generalize ((w1.alloc (.cells (nine.map bv).toArray 5 (9, 10))).alloc (.cells ([1].map bv).toArray 5 (0, 0))) = w2 at *
  refine (Check_any _ _ _ [1] _ hO (by decide)).mono ?_
  rintro e w3 ⟨v3, rfl, -, hb3⟩
  have hck : chk 2 tail16 [1] = false := rfl
  have hN3 := hN.below hb3 (Nat.le_refl _)
  have hb3 := hb2.trans (hb3.mono hb2.size)
  go_wp2_with fail
  refine (Add32_any _ _ _ nine _ hN3 (by decide)).mono ?_
  rintro e w4 ⟨v4, rfl, ho4, hb4⟩
  obtain ⟨a4, c4, rfl, hB4⟩ := Bts.of_own ho4 (by decide)
  have hN4 := hN3.below hb4 (Nat.le_refl _)
  have hb4 := hb3.trans (hb4.mono hb3.size)
  go_wp2_with fail
  refine (Check32_any a4 13 c4 _ _ hB4 (by decide)).mono ?_
  rintro e w5 ⟨v5, rfl, -, hb5⟩
  have hck5 := chk_add 4 tail32 tail32_length nine
  have hN5 := hN4.below hb5 (Nat.le_refl _)
  have hb5 := hb4.trans (hb5.mono hb4.size)
  have hs16 := s16_nine
  have hs32 := s32_nine
  go_wp2_with (first | (go_at_call 7; refine (sum16_top _ _ _ nine _ hN5).mono ?_; rintro e w' ⟨rfl, rfl⟩) | (go_at_call 8; refine (sum32_top _ _ _ nine _ hN5).mono ?_; rintro e w' ⟨rfl, rfl⟩))
  go_ret
  exact ⟨rfl, hb5⟩

set_option maxHeartbeats 400000 in
theorem sums_any (a : Option Addr) (n c : Nat) (l : List UInt8) (w : World) (hB : Bts w a n c l) (h5 : n ≤ 5000) :
    Calls Try.prog 5 #[.slice a n c] w fun e w' => e = .returned (.bool true) ∧ Below w.heap.size w w' := by
  go_enter Try.func5, Try.ntmps5
  go_wp2_with (go_at_call 6; refine (awake_any _).mono ?_; rintro e w1 ⟨rfl, hb1⟩; have hB1 := hB.below hb1 (Nat.le_refl _))
  go_wp2_with fail
  refine (Check_any a n c l _ hB1 (by omega)).mono ?_
  rintro e w2 ⟨x, rfl, hx, hb2'⟩
  have hB2 := hB1.below hb2' (Nat.le_refl _)
  have hb2 := hb1.trans (hb2'.mono hb1.size)
  go_wp2_with fail
  refine (rcheck16_any a n c l _ hB2 (by omega)).mono ?_
  rintro e w3 ⟨y, rfl, hy, hb3'⟩
  have hB3 := hB2.below hb3' (Nat.le_refl _)
  have hb3 := hb2.trans (hb3'.mono hb2.size)
  have hx3 := own_below hx hb3'
  go_wp2_with fail
  refine (Check32_any a n c l _ hB3 (by omega)).mono ?_
  rintro e w4 ⟨u, rfl, hu, hb4'⟩
  have hB4 := hB3.below hb4' (Nat.le_refl _)
  have hb4 := hb3.trans (hb4'.mono hb3.size)
  have hx4 := own_below hx3 hb4'
  have hy4 := own_below hy hb4'
  go_wp2_with fail
  refine (rcheck32_any a n c l _ hB4 (by omega)).mono ?_
  rintro e w5 ⟨v, rfl, hv, hb5'⟩
  have hB5 := hB4.below hb5' (Nat.le_refl _)
  have hb5 := hb4.trans (hb5'.mono hb4.size)
  have hx5 := own_below hx4 hb5'
  have hy5 := own_below hy4 hb5'
  have hu5 := own_below hu hb5'
  obtain ⟨xa, xc, rfl, hX⟩ := Bts.of_own hx5 (by have := chkOut_le 2 tail16 l; have := hB.len; omega)
  obtain ⟨ya, yc, rfl, hY⟩ := Bts.of_own hy5 (by have := chkOut_le 2 tail16 l; have := hB.len; omega)
  obtain ⟨ua, uc, rfl, hU⟩ := Bts.of_own hu5 (by have := chkOut_le 4 tail32 l; have := hB.len; omega)
  obtain ⟨va, vc, rfl, hV⟩ := Bts.of_own hv (by have := chkOut_le 4 tail32 l; have := hB.len; omega)
  clear hx hx3 hx4 hx5 hy hy4 hy5 hu hu5 hv hb1 hb2' hb3' hb4' hb5' hB1 hB2 hB3 hB4 hb2 hb3 hb4
  go_wp2_with (first | (go_at_call 7; refine (sum16_top _ _ _ l _ hB5).mono ?_; rintro e w' ⟨rfl, rfl⟩) | (go_at_call 8; refine (sum32_top _ _ _ l _ hB5).mono ?_; rintro e w' ⟨rfl, rfl⟩) | (go_at_call 14; refine (rsum16_any _ _ _ l _ hB5).mono ?_; rintro e w' ⟨rfl, rfl⟩) | (go_at_call 15; refine (rsum32_any _ _ _ l _ hB5).mono ?_; rintro e w' ⟨rfl, rfl⟩))
  refine (Add_any a n c l _ hB5 (by omega)).mono ?_
  rintro e w6 ⟨p6, rfl, ho6, hb6'⟩
  obtain ⟨pa6, pc6, rfl, hP6⟩ := Bts.of_own ho6 (by omega)
  have hB6 := hB5.below hb6' (Nat.le_refl _)
  have hb6 := hb5.trans (hb6'.mono hb5.size)
  go_wp2_with fail
  refine (radd16_any a n c l _ hB6 (by omega)).mono ?_
  rintro e w7 ⟨p7, rfl, ho7, hb7'⟩
  obtain ⟨pa7, pc7, rfl, hP7⟩ := Bts.of_own ho7 (by omega)
  have hB7 := hB6.below hb7' (Nat.le_refl _)
  have hb7 := hb6.trans (hb7'.mono hb6.size)
  have hQ7 := hP6.below hb7' (Nat.le_refl _)
  go_wp2_with fail
  refine (same_any pa6 pa7 _ _ pc6 pc7 _ _ _ hQ7 hP7).mono ?_
  rintro e w8 ⟨rfl, hb8'⟩
  have hB8 := hB7.below hb8' (Nat.le_refl _)
  have hb8 := hb7.trans (hb8'.mono hb7.size)
  clear ho6 ho7 hP6 hP7 hQ7
  go_wp2_with fail
  refine (Add32_any a n c l _ hB8 (by omega)).mono ?_
  rintro e w9 ⟨p9, rfl, ho9, hb9'⟩
  obtain ⟨pa9, pc9, rfl, hP9⟩ := Bts.of_own ho9 (by omega)
  have hB9 := hB8.below hb9' (Nat.le_refl _)
  have hb9 := hb8.trans (hb9'.mono hb8.size)
  go_wp2_with fail
  refine (radd32_any a n c l _ hB9 (by omega)).mono ?_
  rintro e w10 ⟨p10, rfl, ho10, hb10'⟩
  obtain ⟨pa10, pc10, rfl, hP10⟩ := Bts.of_own ho10 (by omega)
  have hB10 := hB9.below hb10' (Nat.le_refl _)
  have hb10 := hb9.trans (hb10'.mono hb9.size)
  have hQ10 := hP9.below hb10' (Nat.le_refl _)
  go_wp2_with fail
  refine (same_any pa9 pa10 _ _ pc9 pc10 _ _ _ hQ10 hP10).mono ?_
  rintro e w11 ⟨rfl, hb11'⟩
  have hB11 := hB10.below hb11' (Nat.le_refl _)
  have hb11 := hb10.trans (hb11'.mono hb10.size)
  clear ho9 ho10 hP9 hP10 hQ10
  go_wp2_with fail
  have hb5b : Below w5.heap.size w5 w11 := hb6'.trans ((hb7'.mono hb6'.size).trans ((hb8'.mono (by have := hb6'.size; have := hb7'.size; omega)).trans ((hb9'.mono (by have := hb6'.size; have := hb7'.size; have := hb8'.size; omega)).trans ((hb10'.mono (by have := hb6'.size; have := hb7'.size; have := hb8'.size; have := hb9'.size; omega)).trans (hb11'.mono (by have := hb6'.size; have := hb7'.size; have := hb8'.size; have := hb9'.size; have := hb10'.size; omega))))))
  have hX11 := hX.below hb5b (Nat.le_refl _)
  have hY11 := hY.below hb5b (Nat.le_refl _)
  have hU11 := hU.below hb5b (Nat.le_refl _)
  have hV11 := hV.below hb5b (Nat.le_refl _)
  clear hX hY hU hV hB5 hB6 hB7 hB8 hB9 hB10 hB11 hb5b
  refine (same_any xa ya _ _ xc yc _ _ _ hX11 hY11).mono ?_
  rintro e w12 ⟨rfl, hb12'⟩
  have hb12 := hb11.trans (hb12'.mono hb11.size)
  go_wp2_with fail
  refine (same_any ua va _ _ uc vc _ _ _ (hU11.below hb12' (Nat.le_refl _)) (hV11.below hb12' (Nat.le_refl _))).mono ?_
  rintro e w13 ⟨rfl, hb13'⟩
  have hb13 := hb12.trans (hb13'.mono hb12.size)
  go_wp2_with fail
  go_ret
  exact ⟨rfl, hb13⟩

set_option maxHeartbeats 400000 in
theorem joins_any (a1 a2 a3 : Option Addr) (n1 n2 n3 c1 c2 c3 : Nat) (z1 z2 z3 : List Int) (w : World) (h1 : IsRow .u8 w a1 n1 c1 z1) (h2 : IsRow .u8 w a2 n2 c2 z2) (h3 : IsRow .u8 w a3 n3 c3 z3) :
    Calls Try.prog 3 #[.slice a1 n1 c1, .slice a2 n2 c2, .slice a3 n3 c3] w fun e w' => e = .returned (.bool true) ∧ Below w.heap.size w w' := by
  have hle1 := h1.le
  have hle2 := h2.le
  have hle3 := h3.le
  obtain ⟨i0, hi, hz0, hz1, hz2⟩ := info_parts Try.info5
  have hi' := Lib.hid hi; clear hi
  obtain ⟨m, hm⟩ : ∃ m, m = min (min (min n1 n2) n3) 1000 := ⟨_, rfl⟩
  have hmin : ∀ w, (Builtin.min_ #[3, 3, 3, 3] 3 #[.int .i64 n1, .int .i64 n2, .int .i64 n3, .int .i64 1000]).run Try.prog w = .ok (.int .i64 m) w := by
    intro w
    rw [hm]
    exact run_min4 w _ _ n1 n2 n3 1000
  have hm1 : m ≤ n1 := by omega
  have hm2 : m ≤ n2 := by omega
  have hm3 : m ≤ n3 := by omega
  have hm4 : m ≤ 1000 := by omega
  clear hm
  have hB1 := Bts.of_row h1 m hm1 (by omega)
  have hB2 := Bts.of_row h2 m hm2 (by omega)
  have hB3 := Bts.of_row h3 m hm3 (by omega)
  generalize toBytes (z1.take m) = l1 at *
  generalize toBytes (z2.take m) = l2 at *
  generalize toBytes (z3.take m) = l3 at *
  go_enter Try.func3, Try.ntmps3
  go_wp2_with (go_at_call 6; refine (awake_any _).mono ?_; rintro e w1 ⟨rfl, hb1⟩)
  go_wp2
  go_loopw [8, 9] (fun v i wr => ∃ k : Nat, k ≤ m ∧ i = .int .i64 k ∧ ∃ l : List UInt8, wr.ownsRow w.heap.size 5 1 v k (l.map bv) ∧ Below w.heap.size w wr ∧ (∀ j, j < k → l.getD j 0 = l1.getD j 0 ^^^ l2.getD j 0 ^^^ l3.getD j 0)) (fun _ i _ => m - (intOf i).toNat)
  case atStart => exact ⟨0, by omega, rfl, [], World.ownsRow_nil _ _ _ _, hb1, fun j hj => by omega⟩
  case round =>
    obtain ⟨k, hk, rfl, l, hown, hb, hx⟩ := hrel
    have hsz := hb.size
    have hx' := Lib.hid hx; clear hx
    by_cases hlt : k < m
    · obtain ⟨b1, o1, rfl, hc1⟩ := (hB1.below hb (Nat.le_refl _)).addr (by omega)
      obtain ⟨b2, o2, rfl, hc2⟩ := (hB2.below hb (Nat.le_refl _)).addr (by omega)
      obtain ⟨b3, o3, rfl, hc3⟩ := (hB3.below hb (Nat.le_refl _)).addr (by omega)
      have g1 := hc1 k hlt
      have g2 := hc2 k hlt
      have g3 := hc3 k hlt
      clear hc1 hc2 hc3
      have g1' := fun (W : World) (hb : Below w.heap.size w W) => hB1.get hb hlt
      have g2' := fun (W : World) (hb : Below w.heap.size w W) => hB2.get hb hlt
      have g3' := fun (W : World) (hb : Below w.heap.size w W) => hB3.get hb hlt
      generalize e1 : l1.getD k 0 = x1 at *
      generalize e2 : l2.getD k 0 = x2 at *
      generalize e3 : l3.getD k 0 = x3 at *
      have E1 := Lib.hid e1; clear e1
      have E2 := Lib.hid e2; clear e2
      have E3 := Lib.hid e3; clear e3
      have G1 := Lib.hid g1'; clear g1'
      have G2 := Lib.hid g2'; clear g2'
      have G3 := Lib.hid g3'; clear g3'
      have hx1 := u8_xor_nat _ _ x1.toNat_lt x2.toNat_lt
      have hx2 := u8_xor_nat _ _ (Nat.xor_lt_two_pow (n := 8) x1.toNat_lt x2.toNat_lt) x3.toNat_lt
      have hk1 : k < n1 := by omega
      have hk2 : k < n2 := by omega
      have hk3 : k < n3 := by omega
      go_wp2
      have hown := own_below hown (Below.refl wr.heap.size wr).drew
      have hb := hb.drew
      have hsz := hb.size
      go_region_held3 (fun W => W.cell? ⟨b1, o1 + k, none⟩ = some (.int .u8 (x1.toNat : Int)) ∧ W.cell? ⟨b2, o2 + k, none⟩ = some (.int .u8 (x2.toNat : Int)) ∧ W.cell? ⟨b3, o3 + k, none⟩ = some (.int .u8 (x3.toNat : Int))) (first | exact ⟨g1, g2, g3⟩ | exact ⟨G1.out _ hb', G2.out _ hb', G3.out _ hb'⟩ | exact ⟨G1.out _ (below_alloc hb _ (Nat.le_refl _)), G2.out _ (below_alloc hb _ (Nat.le_refl _)), G3.out _ (below_alloc hb _ (Nat.le_refl _))⟩) (first | (refine step_app1 rfl _ _ 22 rfl w.heap.size 5 i0 _ 1 Try.underlying22 hi'.out hz0 hz1 hz2 rfl _ _ _ rfl hown _ (by rfl) rfl (by unfold maxLen; omega) (by omega) hsz ?_; intro v' w' ho' hg; have hb' := below_grown hb hown hg hsz; clear hg))
      go_wp2
      go_roundw
      case rel =>
        refine ⟨k + 1, by omega, by go_num, l ++ [x1 ^^^ x2 ^^^ x3], own_congr ho' rfl ?_, hb', ?_⟩
        · simp [bv]
        · intro j hj
          rw [getD_snoc, own_len hown]
          by_cases hjk : j < k
          · rw [if_pos hjk, hx'.out j hjk]
          · rw [if_neg hjk, if_pos (by omega), show j = k by omega, E1.out, E2.out, E3.out]
      case measure => simp [intOf]; omega
    · obtain rfl : k = m := by omega
      have hlen := own_len hown
      have hW1 := hB1.below hb (Nat.le_refl _)
      have hW2 := hB2.below hb (Nat.le_refl _)
      have hW3 := hB3.below hb (Nat.le_refl _)
      obtain ⟨ad, cd, rfl, hD⟩ := Bts.of_own hown (by omega)
      have e16 : s16 l = s16 l1 ^^^ s16 l2 ^^^ s16 l3 := s16_xor3 k l1 l2 l3 l hB1.len hB2.len hB3.len hlen hx'.out
      have e32 : s32 l = s32 l1 ^^^ s32 l2 ^^^ s32 l3 := s32_xor3 k l1 l2 l3 l hB1.len hB2.len hB3.len hlen hx'.out
      have q1 : bits .xor .u16 ((s16 l1 : Nat) : Int) ((s16 l2 : Nat) : Int) = ((s16 l1 ^^^ s16 l2 : Nat) : Int) := u16_xor_nat _ _ (s16_lt _) (s16_lt _)
      have q2 : bits .xor .u16 ((s16 l1 ^^^ s16 l2 : Nat) : Int) ((s16 l3 : Nat) : Int) = ((s16 l : Nat) : Int) := by
        rw [e16]; exact u16_xor_nat _ _ (Nat.xor_lt_two_pow (n := 16) (s16_lt _) (s16_lt _)) (s16_lt _)
      have q3 : bits .xor .u32 ((s32 l1 : Nat) : Int) ((s32 l2 : Nat) : Int) = ((s32 l1 ^^^ s32 l2 : Nat) : Int) := u32_xor_nat _ _ (s32_lt _) (s32_lt _)
      have q4 : bits .xor .u32 ((s32 l1 ^^^ s32 l2 : Nat) : Int) ((s32 l3 : Nat) : Int) = ((s32 l : Nat) : Int) := by
        rw [e32]; exact u32_xor_nat _ _ (Nat.xor_lt_two_pow (n := 32) (s32_lt _) (s32_lt _)) (s32_lt _)
      clear e16 e32 hx'
      go_wp2_with fail
      go_quiet ((first | (go_at_call 7; first | exact quiet_eq (sum16_top a1 k c1 l1 _ (hW1.drewN _)) | exact quiet_eq (sum16_top a2 k c2 l2 _ (hW2.drewN _)) | exact quiet_eq (sum16_top a3 k c3 l3 _ (hW3.drewN _)))))
      have hW1 := hW1.drewN nq
      have hW2 := hW2.drewN nq
      have hW3 := hW3.drewN nq
      have hD := hD.drewN nq
      have hb := below_drewN hb nq
      generalize wr.drewN nq = w5 at *
      go_wp2_with fail
      go_quiet ((first | (go_at_call 8; first | exact quiet_eq (sum32_top a1 k c1 l1 _ (hW1.drewN _)) | exact quiet_eq (sum32_top a2 k c2 l2 _ (hW2.drewN _)) | exact quiet_eq (sum32_top a3 k c3 l3 _ (hW3.drewN _)))))
      have hD := hD.drewN nq
      have hb := below_drewN hb nq
      generalize w5.drewN nq = w6 at *
      go_wp2_with (first | (go_at_call 7; refine (sum16_top ad k cd l _ hD).mono ?_; rintro e w' ⟨rfl, rfl⟩) | (go_at_call 8; refine (sum32_top ad k cd l _ hD).mono ?_; rintro e w' ⟨rfl, rfl⟩))
      go_ret
      exact ⟨rfl, hb⟩

set_option maxHeartbeats 400000 in
theorem sums_big (a : Option Addr) (n c : Nat) (w : World) (_hc : n ≤ c) (_hm : c ≤ 9223372036854775807) (h5 : 5000 < n) :
    Calls Try.prog 5 #[.slice a n c] w fun e w' => e = .returned (.bool true) ∧ Below w.heap.size w w' := by
  go_enter Try.func5, Try.ntmps5
  go_wp2_with (go_at_call 6; refine (awake_any _).mono ?_; rintro e w1 ⟨rfl, hb1⟩)
  go_ret
  exact ⟨rfl, hb1⟩
end Go.Proofs.Yteefnbgcbjeffaa
