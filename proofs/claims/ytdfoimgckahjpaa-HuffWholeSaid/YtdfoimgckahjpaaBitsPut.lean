/-
  The walks of a writer of bits. Conditions: it is one that was made.
-/
import Derived.Test.YtdfoimgckahjpaaBitsAt
import Derived.Test.YtdfoimgckahjpaaBitsRef3
import Derived.Test.YtdfoimgckahjpaaBitsWr
import Derived.Test.YtdfoimgckahjpaaTail
import Derived.Deep.Cut
import Derived.Deep.DrawnRows
namespace Go.Proofs.Ytdfoimgckahjpaa
open Go.RowKit
theorem or_u8 (a c : UInt8) : bits .or .u8 (a.toNat : Int) (c.toNat : Int) = (((a ||| c).toNat : Nat) : Int) := by
  rw [u8_or_nat _ _ a.toNat_lt c.toNat_lt]; simp
/-- a writer with room for one bit more -/
structure Mid (w : World) (S b r cap : Nat) (high : Bool) (fs : List Bool) : Prop where
  blk : Blk w b #[.slice (some ⟨r, 0, none⟩) (fs.length / 8 + 1) cap, .int .i64 (fs.length : Int), placeV high] 85
  own : w.ownsRow S 5 1 (.slice (some ⟨r, 0, none⟩) (fs.length / 8 + 1) cap) (fs.length / 8 + 1) ((room1 high fs).map bv)
theorem shr_pos {x n : Nat} (h : 2 ^ n ≤ x) : (((x : Int) / 2 ^ n) != 0) = true := by
  have : (x : Int) / 2 ^ n = ((x / 2 ^ n : Nat) : Int) := by simp
  rw [this, bne_iff_ne]
  have := Nat.div_pos h (Nat.pow_pos (by decide) : 0 < 2 ^ n)
  omega
theorem put_no {w : World} {S b : Nat} {v : Value} {high : Bool} {fs : List Bool} (h : Wr w S b v high fs) (N X : Int) (hN : N < 0 ∨ 32 < N ∨ X < 0 ∨ ((2 ^ N.toNat : Nat) : Int) ≤ X) (hX : X ≤ 9223372036854775807) :
    Calls Try.prog 22 #[.pointer (some ⟨b, 0, none⟩), .int .i64 X, .int .i64 N] w fun e w' => e = .returned (.bool false) ∧ w = w' := by
  by_cases h1 : N < 0
  · go_enter Try.func22, Try.ntmps22
    go_wp2_with (go_at_call 55; refine h.made.mono ?_; rintro e w' ⟨rfl, rfl⟩)
    go_ret
    exact ⟨rfl, rfl⟩
  · by_cases h2 : 32 < N
    · go_enter Try.func22, Try.ntmps22
      go_wp2_with (go_at_call 55; refine h.made.mono ?_; rintro e w' ⟨rfl, rfl⟩)
      go_ret
      exact ⟨rfl, rfl⟩
    · by_cases h3 : X < 0
      · go_enter Try.func22, Try.ntmps22
        go_wp2_with (go_at_call 55; refine h.made.mono ?_; rintro e w' ⟨rfl, rfl⟩)
        go_ret
        exact ⟨rfl, rfl⟩
      · obtain ⟨n, rfl⟩ := Int.eq_ofNat_of_zero_le (show 0 ≤ N by omega)
        obtain ⟨x, rfl⟩ := Int.eq_ofNat_of_zero_le (show 0 ≤ X by omega)
        have h4 : 2 ^ n ≤ x := by
          rcases hN with hh | hh | hh | hh
          · omega
          · omega
          · omega
          · rw [Int.toNat_natCast] at hh; exact Int.ofNat_le.1 hh
        have hw := shr_pos h4
        clear hN h4
        go_enter Try.func22, Try.ntmps22
        go_wp2_with (go_at_call 55; refine h.made.mono ?_; rintro e w' ⟨rfl, rfl⟩)
        go_ret
        exact ⟨rfl, rfl⟩
theorem shr_zero {x n : Nat} (h : x < 2 ^ n) : (x : Int) / 2 ^ n = 0 := by
  have : (x : Int) / 2 ^ n = ((x / 2 ^ n : Nat) : Int) := by simp
  rw [this, Nat.div_eq_of_lt h]; rfl
theorem own_form {w : World} {B E n : Nat} {v : Value} {xs : List Value} (h : w.ownsRow B E 1 v n xs) (hn : 0 < n) : ∃ r cap, v = .slice (some ⟨r, 0, none⟩) n cap := by
  rcases h.2 with ⟨_, rfl⟩ | ⟨g, cap, cur, hv, _⟩
  · have := h.1; simp at this; omega
  · exact ⟨g, cap, hv⟩
theorem Wr.blk1 {wr w1 : World} {S b : Nat} {v' : Value} {high : Bool} {g : List Bool} (hW : Wr wr S b v' high g) (hg1 : wr.grownBy w1 v'.ownBlock) :
    Blk w1 b #[v', .int .i64 (g.length : Int), placeV high] 85 := hW.blk.grown hg1 (fun e => own_blk_ne hW.own hW.blk (by decide) e.symm)
theorem mid_app {wr w1 : World} {S b : Nat} {v' v1 : Value} {high : Bool} {g : List Bool} (hW : Wr wr S b v' high g) (hg1 : wr.grownBy w1 v'.ownBlock)
    (ho1 : w1.ownsRow S 5 1 v1 ((g.length + 7) / 8 + 1) ((packB high g).map bv ++ [.int .u8 0])) (h8 : g.length % 8 = 0) :
    ∃ r cap, v1 = .slice (some ⟨r, 0, none⟩) (g.length / 8 + 1) cap ∧ Mid (w1.setCell ⟨b, 0, none⟩ v1) S b r cap high g ∧ ButOf (Foot b v') wr (w1.setCell ⟨b, 0, none⟩ v1) := by
  rw [show (g.length + 7) / 8 + 1 = g.length / 8 + 1 by omega] at ho1
  obtain ⟨r, cap, rfl⟩ := own_form ho1 (by omega)
  have hb1 := hW.blk1 hg1
  have hne := own_blk_ne ho1 hb1 (by decide)
  refine ⟨r, cap, rfl, ⟨hb1.set 0 _, ?_⟩, (ButOf.of_grown hg1 (fun k hk => .inr hk)).set _ (.inl (.inl rfl))⟩
  have e : (packB high g).map bv ++ [.int .u8 0] = (room1 high g).map bv := by rw [room1, if_pos h8, List.map_append]; rfl
  rw [e] at ho1
  exact own_but ho1 ((ButOf.refl (· = b) w1).set _ (.inl rfl)) (fun k hk e => hne (by rw [hk, e]))
theorem mid_not {wr : World} {S b : Nat} {v' : Value} {high : Bool} {g : List Bool} (hW : Wr wr S b v' high g) (h8 : ¬ g.length % 8 = 0) :
    ∃ r cap, v' = .slice (some ⟨r, 0, none⟩) (g.length / 8 + 1) cap ∧ Mid wr S b r cap high g := by
  have ho := hW.own
  rw [show (g.length + 7) / 8 = g.length / 8 + 1 by omega] at ho
  obtain ⟨r, cap, rfl⟩ := own_form ho (by omega)
  have e : packB high g = room1 high g := by rw [room1, if_neg h8]
  rw [e] at ho
  exact ⟨r, cap, rfl, hW.blk, ho⟩
theorem Mid.below {w w' : World} {S b r cap : Nat} {high : Bool} {g : List Bool} (h : Mid w S b r cap high g) (hb : Below w.heap.size w w') : Mid w' S b r cap high g :=
  ⟨h.blk.below hb h.blk.lt, own_below h.own hb⟩
theorem Mid.cells {w : World} {S b r cap : Nat} {high : Bool} {g : List Bool} (h : Mid w S b r cap high g) (hf : g.length ≤ 1099511627776) :
    w.cell? ⟨b, 0, none⟩ = some (.slice (some ⟨r, 0, none⟩) (g.length / 8 + 1) cap) ∧ w.cell? ⟨b, 1, none⟩ = some (.int .i64 (g.length : Int)) ∧ w.cell? ⟨b, 2, none⟩ = some (.func (.func 49) #[.agg #[.bool high]] #[]) ∧
      w.cell? ⟨r, g.length / 8, none⟩ = some (.int .u8 (((room1 high g).getD (g.length / 8) 0).toNat : Int)) ∧ w.frozen? ⟨r, g.length / 8, none⟩ = false ∧ w.frozen? ⟨b, 1, none⟩ = false := by
  refine ⟨by rw [h.blk.cell]; rfl, by rw [h.blk.cell]; rfl, by rw [h.blk.cell]; rfl, ?_, h.own.frozenAt _, h.blk.free 1 none⟩
  obtain ⟨b', o, e, hc⟩ := (own_bts h.own (by omega)).cell (g.length / 8) (by omega)
  cases e
  rw [Nat.zero_add] at hc
  exact hc
theorem or_byte (X : UInt8) (B p : Nat) (hB : B ≤ 1) (hp : p < 8) : bits .or .u8 (X.toNat : Int) (wrap64 ((B : Int) * 2 ^ p) % 256) = (((X ||| UInt8.ofNat (B <<< p)).toNat : Nat) : Int) := by
  have h1 := shl_lt B p 8 hB hp
  have h3 : (B : Int) * 2 ^ p = ((B <<< p : Nat) : Int) := by rw [Nat.shiftLeft_eq]; simp
  rw [h3]
  clear h3
  generalize B <<< p = y at *
  rw [wrap64_in _ (by omega)]
  have h2 : (y : Int) % 256 = ((UInt8.ofNat y).toNat : Int) := by simp
  rw [h2, or_u8]
theorem Mid.ne {w : World} {S b r cap : Nat} {high : Bool} {g : List Bool} (h : Mid w S b r cap high g) : b ≠ r := fun e => own_blk_ne h.own h.blk (by decide) (by rw [e]; rfl)
theorem put_fin {w : World} {S b r cap q p : Nat} {high : Bool} {g : List Bool} {X : UInt8} {bit : Bool} (h : Mid w S b r cap high g) (hX : (room1 high g).getD q 0 = X) (hq : g.length / 8 = q) (hp : plc high (g.length % 8) 8 = p) (hr : g.length + 1 ≤ 1099511627776) :
    Blk (w.setCell ⟨r, q, none⟩ (.int .u8 ((X ||| UInt8.ofNat (bit.toNat <<< p)).toNat : Int))) b #[.slice (some ⟨r, 0, none⟩) (q + 1) cap, .int .i64 (g.length : Int), placeV high] 85 ∧
    Wr ((w.setCell ⟨r, q, none⟩ (.int .u8 ((X ||| UInt8.ofNat (bit.toNat <<< p)).toNat : Int))).setCell ⟨b, 1, none⟩ (.int .i64 ((g.length : Int) + 1))) S b (.slice (some ⟨r, 0, none⟩) (q + 1) cap) high (g ++ [bit]) ∧
    ButOf (Foot b (.slice (some ⟨r, 0, none⟩) (q + 1) cap)) w ((w.setCell ⟨r, q, none⟩ (.int .u8 ((X ||| UInt8.ofNat (bit.toNat <<< p)).toNat : Int))).setCell ⟨b, 1, none⟩ (.int .i64 ((g.length : Int) + 1))) := by
  subst hq
  have hne := h.ne
  have hb1 := h.blk.but ((ButOf.refl (· = r) w).set (o := g.length / 8) (.int .u8 ((X ||| UInt8.ofNat (bit.toNat <<< p)).toNat : Int)) (.inl rfl)) hne
  refine ⟨hb1, ⟨?_, ?_, by simpa using hr⟩, ((ButOf.refl _ _).set _ (.inl (.inr rfl))).set _ (.inl (.inl rfl))⟩
  · have := hb1.set 1 (.int .i64 ((g.length : Int) + 1))
    simpa using this
  · have h1 := h.own.stored (g.length / 8) (.int .u8 ((X ||| UInt8.ofNat (bit.toNat <<< p)).toNat : Int))
    have h2 := own_but h1.1 ((ButOf.refl (· = b) _).set (b := b) (o := 1) (.int .i64 ((g.length : Int) + 1)) (.inl rfl)) (fun k hk e => by
      have hk : r = k := by simpa [Value.ownBlock] using hk
      exact hne (by rw [hk]; exact e.symm))
    refine own_congr h2 (by simp; omega) ?_
    rw [packB_snoc, hX, hp, List.map_set]
    rfl
attribute [local go_sem ↓] Go.wp_at_zero Go.wp_at_succ
set_option maxRecDepth 100000 in
set_option maxHeartbeats 10000000 in
theorem put_yes {w : World} {S b : Nat} {v : Value} {high : Bool} {fs : List Bool} (h : Wr w S b v high fs) (x n : Nat) (h32 : n ≤ 32) (hx : x < 2 ^ n) (hS : S ≤ w.heap.size) (hroom : fs.length + n ≤ 1099511627776) :
    Calls Try.prog 22 #[.pointer (some ⟨b, 0, none⟩), .int .i64 (x : Int), .int .i64 (n : Int)] w (Wrote w S b v high (fs ++ numBits high x n n) (.bool true)) := by
  have hx2 := shr_zero hx
  have hx4 := pow_le32 h32
  have hx3 : x < 9223372036854775808 := by omega
  have hx2' := Lib.hid hx2
  obtain ⟨i0, hi, hz0, hz1, hz2⟩ := info_parts Try.info5
  have hi' := Lib.hid hi; clear hi
  go_enter Try.func22, Try.ntmps22
  go_wp2_with (go_at_call 55; refine h.made.mono ?_; rintro e w' ⟨rfl, rfl⟩)
  clear hx2
  go_loopw [31] (fun i wr => ∃ (k : Nat) (v' : Value), k ≤ n ∧ i = .int .i64 k ∧ Wr wr S b v' high (fs ++ numBits high x n k) ∧ ButOf (Foot b v) w wr ∧ Next w v v') (fun i _ => n - (intOf i).toNat)
  case atStart => exact ⟨0, v, by omega, rfl, by simpa [numBits] using h, ButOf.refl _ _, Next.refl _ _⟩
  case round =>
    obtain ⟨k, v', hk, rfl, hW, hB, hN⟩ := hrel
    by_cases hlt : k < n
    · have hgl : (fs ++ numBits high x n k).length = fs.length + k := by rw [List.length_append, numBits_length]
      have hnext : fs ++ numBits high x n (k + 1) = (fs ++ numBits high x n k) ++ [x.testBit (plc high k n)] := by rw [numBits_succ, List.append_assoc]
      generalize hg : fs ++ numBits high x n k = g at *
      have hnext' := Lib.hid hnext; clear hnext
      clear hg
      have hgf : g.length ≤ 1099511627776 := by omega
      have hSr : S ≤ wr.heap.size := Nat.le_trans hS hB.size
      have g0 := hW.blk.cell 0
      have g1 := hW.blk.cell 1
      simp at g0 g1
      have f0 := hW.blk.free 0 none
      have hgk : g.length ≤ fs.length + k ∧ fs.length + k ≤ g.length := by omega
      clear hgl
      by_cases h8 : g.length % 8 = 0
      have h8b : (((g.length : Int) % 8) == 0) = true := by simp; omega
      go_upto_region 8 with (at_builtin; go_must (refine wp_app1_at rfl _ _ 22 rfl S 5 i0 _ 1 Try.underlying22 hi'.out hz0 hz1 hz2 rfl v' _ _ rfl hW.own _ (by rfl) rfl (by unfold maxLen; omega) (by omega) hSr ?_); intro v1 w1 ho1 hg1 hn1; have gb1 := hW.blk1 hg1; obtain ⟨r, cap, rfl, hM, hBM⟩ := mid_app hW hg1 ho1 h8; have gc1 := gb1.cell 0; have gf1 := gb1.free 0 none; simp only [List.getElem?_toArray, List.getElem?_cons_zero] at gc1; clear gb1 hg1 ho1 g0 g1 f0)
      have hNM : Next wr v' (.slice (some ⟨r, 0, none⟩) (g.length / 8 + 1) cap) := hn1
      clear hW h8b hn1 gf1 gc1
      generalize w1.setCell ⟨b, 0, none⟩ (.slice (some ⟨r, 0, none⟩) (g.length / 8 + 1) cap) = w2 at *
      rotate_left
      have h8b : (((g.length : Int) % 8) == 0) = false := by simp; omega
      obtain ⟨r, cap, rfl, hM⟩ := mid_not hW h8
      have hBM := ButOf.refl (Foot b (.slice (some ⟨r, 0, none⟩) (g.length / 8 + 1) cap)) wr
      have hNM := Next.refl wr (.slice (some ⟨r, 0, none⟩) (g.length / 8 + 1) cap)
      go_upto_region 8 with fail
      clear hW h8b
      obtain ⟨w2, rfl⟩ : ∃ w2 : World, w2 = wr := ⟨_, rfl⟩
      clear g0 g1 f0
      all_goals
        clear h8
        have hp1 := plc_lt (high := high) (show k < n by omega)
        have g2 := (hM.cells hgf).2.2.1
        generalize hpp : plc high k n = p at *
        have hpp' := Lib.hid hpp
        have atk := fun (W : World) => at_any high k n W (by omega) (by omega)
        rw [hpp] at atk
        have atk' := Lib.hid atk; clear atk hpp
        have hbit := i64_bit x p hx3
        have hbb := bit_and x p
        have hbb' := Lib.hid hbb; clear hbb
        have hbl : (x >>> p &&& 1) ≤ 1 := Nat.and_le_right
        generalize (x >>> p &&& 1) = B at *
        go_upto_region 9 with (go_at_call 49; refine (atk'.out _).mono ?_; rintro e w3 ⟨rfl, hb3⟩)
        have hM3 := hM.below hb3
        have hBM3 := hBM.trans (ButOf.of_below hb3)
        clear hM hBM hb3 hbit g2
        have d1 : IntKind.i64.wrap ((g.length : Int) / 8) = ((g.length / 8 : Nat) : Int) := by
          rw [IntWalk.i64_in _ (by omega)]; omega
        have d2 : (g.length : Int).tmod 8 = ((g.length % 8 : Nat) : Int) := by rw [Int.tmod_eq_emod_of_nonneg (by omega)]; omega
        have C := fun (W : World) (hW : Below w3.heap.size w3 W) => (hM3.below hW).cells hgf
        have C' := Lib.hid C; clear C
        obtain ⟨c0, c1, c2, c3, c4, c5⟩ := hM3.cells hgf
        have hm8 : g.length % 8 < 8 := Nat.mod_lt _ (by decide)
        have hp2 := plc_lt (high := high) hm8
        have at8 := fun (W : World) => at_any high (g.length % 8) 8 W hm8 (by decide)
        have at8' := Lib.hid at8; clear at8
        have hqI : ((g.length / 8 : Nat) : Int) < ((g.length / 8 + 1 : Nat) : Int) := by omega
        have hqN : g.length / 8 < g.length / 8 + 1 := by omega
        have hm47 : g.length / 8 + 1 ≤ 1099511627776 := by omega
        have hq0 : (0 : Int) ≤ ((g.length / 8 : Nat) : Int) := by omega
        generalize hX : (room1 high g).getD (g.length / 8) 0 = X at *
        have hX' := Lib.hid hX; clear hX
        generalize hmm : g.length / 8 + 1 = m at *
        have hmm' := Lib.hid hmm; clear hmm
        generalize hqq : g.length / 8 = q at *
        have hqq' := Lib.hid hqq; clear hqq
        generalize hp2e : plc high (g.length % 8) 8 = p2 at *
        have hp2' := Lib.hid hp2e; clear hp2e
        generalize hss : g.length % 8 = s at *
        have hss' := Lib.hid hss; clear hss
        have k0 := cell_regrown c0
        have k1 := cell_regrown c1
        have k2 := cell_regrown c2
        have k3 := cell_regrown c3
        have cA : ∀ d os, Calls Try.prog 49 #[.agg #[.bool high], .int .i64 (s : Int), .int .i64 ((8 : Nat) : Int)] (Go.Sort.grow (redrawn w3 d) os) fun e w'' => e = .returned (.int .i64 (p2 : Int)) ∧ ∃ p : Regrown, w'' = Go.Sort.grow (redrawn w3 p.d) p.os := fun d os => Calls.regrown_of (at8'.out _)
        refine wp_region_below_end 26 (by rfl) (by kernel_rfl) (by kernel_rfl) (by kernel_rfl) ?_
        simp only [List.take_succ_cons, List.take_zero]
        repeat (quiet_step (exact cA _ _))
        refine wpQuiet_nil ?_
        intro _ hw'
        obtain ⟨⟨dq, osq⟩, hw''⟩ := hw'
        subst hw''
        have hW4 := below_regrown w3 dq osq
        generalize Go.Sort.grow (redrawn w3 dq) osq = w4 at *
        clear k0 k1 k2 k3 cA c0 c1 c2 c3 c4 c5
        have hM4 := hM3.below hW4
        have hBM4 := hBM3.trans (ButOf.of_below hW4)
        obtain ⟨c0, c1, c2, c3, c4, c5⟩ := C'.out w4 hW4
        clear C' hM3 hBM3 hW4
        have hor := or_byte X B p2 hbl hp2
        obtain ⟨hbF, hWF, hBF⟩ := put_fin (bit := x.testBit p) (p := p2) hM4 hX'.out hqq'.out (by rw [hss'.out]; exact hp2'.out) (by omega)
        rw [← hbb'.out] at hbF hWF hBF
        rw [hmm'.out] at hbF hWF hBF
        have hc1 := hbF.cell 1
        have hf1 := hbF.free 1 none
        simp only [List.getElem?_toArray, List.getElem?_cons_zero, List.getElem?_cons_succ] at hc1
        clear c0 c1 c2 hM4
        generalize X ||| UInt8.ofNat (B <<< p2) = Y at *
        go_upto_region 10 with fail
        rw [hor]
        clear hor d1 d2 c3 c4 c5
        generalize w4.setCell ⟨r, q, none⟩ (.int .u8 (Y.toNat : Int)) = w5 at *
        go_wp2_with fail
        go_roundw
        case rel =>
          refine ⟨k + 1, _, by omega, by go_num, by rw [hnext'.out]; exact hWF, (hB.next hBM4 hN).next (hBF) (hN.trans hNM hB.size), (hN.trans hNM hB.size)⟩
        case measure => simp [intOf]; omega
    · obtain rfl : k = n := by omega
      go_wp2_with fail
      go_ret
      exact ⟨_, rfl, hW, hB, hN⟩
end Go.Proofs.Ytdfoimgckahjpaa
