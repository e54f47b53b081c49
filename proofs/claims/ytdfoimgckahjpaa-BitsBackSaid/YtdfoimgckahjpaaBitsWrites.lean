/-
  The walk of the statement BitsWrites. No conditions.
-/
import Derived.Test.YtdfoimgckahjpaaBitsRoom
import Derived.Deep.DrawnRows
namespace Go.Proofs.Ytdfoimgckahjpaa
open Go.RowKit
attribute [local go_sem ↓] Go.wp_at_zero Go.wp_at_succ
theorem Wr.drew {w : World} {S b : Nat} {v : Value} {high : Bool} {fs : List Bool} (h : Wr w S b v high fs) : Wr w.drew S b v high fs := h.below (Below.refl _ _).drew
theorem Rf.drew {w : World} {S b : Nat} {v : Value} {high : Bool} {fs : List Bool} {at_ : Nat} (h : Rf w S b v high fs at_) : Rf w.drew S b v high fs at_ := h.below (Below.refl _ _).drew
/-- may a number of so many bits be put? -/
def Fits (X N : Int) : Prop := 0 ≤ N ∧ N ≤ 32 ∧ 0 ≤ X ∧ X < ((2 ^ N.toNat : Nat) : Int)
theorem not_fits {X N : Int} (h : ¬ Fits X N) : N < 0 ∨ 32 < N ∨ X < 0 ∨ ((2 ^ N.toNat : Nat) : Int) ≤ X := by
  unfold Fits at h
  by_cases h1 : N < 0
  · exact .inl h1
  · by_cases h2 : 32 < N
    · exact .inr (.inl h2)
    · by_cases h3 : X < 0
      · exact .inr (.inr (.inl h3))
      · refine .inr (.inr (.inr (Int.not_lt.1 fun h4 => h ⟨by omega, by omega, by omega, h4⟩)))
set_option maxRecDepth 100000 in
theorem writes_out {w : World} {a : Option Addr} {n c : Nat} {f : Nat → DV} {high : Bool} (h : Deeds w a n c f) (hr : roomB n f = false) :
    Calls Try.prog 8 #[.bool high, .slice a n c] w fun e w' => e = .returned (.bool true) ∧ Below w.heap.size w w' := by
  have hc1 := h.cap
  have hc2 := h.most
  have hroom := fun W (hb : Below w.heap.size w W) => room_any (h.below hb)
  rw [hr] at hroom
  have hroom' := Lib.hid hroom
  clear hroom hr
  go_enter Try.func8, Try.ntmps8
  go_wp2_with (go_at_call 15; refine (awake_any _).mono ?_; rintro e w0 ⟨rfl, hb0⟩)
  refine (hroom'.out _ hb0).mono ?_
  rintro e w0' ⟨rfl, rfl⟩
  go_wp2_with fail
  go_ret
  exact ⟨rfl, hb0⟩
set_option maxRecDepth 100000 in
set_option maxHeartbeats 4000000 in
theorem writes_in {w : World} {a : Option Addr} {n c : Nat} {f : Nat → DV} {high : Bool} (h : Deeds w a n c f) (hr : roomB n f = true) :
    Calls Try.prog 8 #[.bool high, .slice a n c] w fun e w' => e = .returned (.bool true) ∧ Below w.heap.size w w' := by
  obtain ⟨hn, hbn⟩ := roomB_yes hr
  have hbn' := Lib.hid hbn; clear hbn
  have hc1 := h.cap
  have hc2 := h.most
  have hroom := fun W (hb : Below w.heap.size w W) => room_any (h.below hb)
  rw [hr] at hroom
  have hroom' := Lib.hid hroom
  clear hroom hr
  go_enter Try.func8, Try.ntmps8
  go_wp2_with (go_at_call 15; refine (awake_any _).mono ?_; rintro e w0 ⟨rfl, hb0⟩)
  refine (hroom'.out _ hb0).mono ?_
  rintro e w0' ⟨rfl, rfl⟩
  clear hroom'
  go_wp2_with fail
  refine (new_writer high w0).mono ?_
  rintro e w1 ⟨rfl, hW1, hb1'⟩
  have hb1 := hb0.trans (hb1'.mono hb0.size)
  have s0 := hb0.size
  have s1 := hb1'.size
  have hR2 : Rf (w1.alloc (.cells #[.slice none 0 0, .int .i64 0, .bool high] 52)) w1.heap.size w1.heap.size (.slice none 0 0) high [] 0 :=
    ⟨Blk.new w1 _ _, World.ownsRow_nil _ _ _ _, by simp, by simp⟩
  have al := below_alloc (Below.refl w1.heap.size w1) (.cells #[.slice none 0 0, .int .i64 0, .bool high] 52) (Nat.le_refl _)
  have hW2 := hW1.below al
  have hb2 := hb1.trans (al.mono hb1.size)
  clear hW1 hb1' al
  go_wp2_with fail
  generalize w1.alloc (.cells #[.slice none 0 0, .int .i64 0, .bool high] 52) = w2 at *
  go_loopw [7] (fun i wr => ∃ (k : Nat) (v1 v2 : Value) (fs : List Bool), k ≤ n ∧ i = .int .i64 k ∧ fs.length ≤ 1000 * k ∧ Wr wr w0.heap.size w0.heap.size v1 high fs ∧ Rf wr w1.heap.size w1.heap.size v2 high fs 0 ∧ Apart v1 v2 ∧ Below w.heap.size w wr ∧ w1.heap.size ≤ wr.heap.size) (fun i _ => n - (intOf i).toNat)
  case atStart => exact ⟨0, _, _, [], by omega, rfl, by simp, hW2, hR2, Apart.nil _, hb2, by have := hR2.lt; omega⟩
  case round =>
    clear hW2 hR2 hb2
    obtain ⟨k, v1, v2, fs, hk, rfl, hfl, hW, hR, hap, hb, hsz⟩ := hrel
    by_cases hlt : k < n
    · obtain ⟨b, o, rfl, g0, g1, g2, g3⟩ := h.at_ hb hlt
      obtain ⟨r0, r1, r2⟩ := h.rng k hlt
      unfold I64 at r0 r1 r2
      have hkI : (0 : Int) ≤ (k : Int) ∧ (k : Int) < (n : Int) := by omega
      have hk1 : (0 : Int) ≤ (k : Int) := hkI.1
      have hk2 : (k : Int) < (n : Int) := hkI.2
      have hbn := hbn'.out k hlt
      have hcell := Lib.hid (fun W (hW : Below w.heap.size w W) => h.get hW hlt)
      have hbts := h.bts hlt (by omega)
      have hrl := (h.row k hlt).le
      generalize toBytes ((f k).zs.take (f k).bn) = bl at *
      generalize (f k).d = D at *
      generalize (f k).x = X at *
      generalize (f k).n = N at *
      generalize (f k).ba = ba at *
      generalize (f k).bn = bn at *
      generalize (f k).bc = bc at *
      by_cases hD : D ≤ 5
      · by_cases hp : Fits X N
        · obtain ⟨h1, h2, h3, h4⟩ := hp
          obtain ⟨nn, rfl⟩ := Int.eq_ofNat_of_zero_le h1
          obtain ⟨xx, rfl⟩ := Int.eq_ofNat_of_zero_le h3
          rw [Int.toNat_natCast] at h4
          have hxx : xx < 2 ^ nn := Int.ofNat_lt.1 h4
          have p1 := Lib.hid (put_yes hW.drew xx nn (by omega) hxx (by show w0.heap.size ≤ wr.heap.size; omega) (by omega))
          have hbd := hb.drew
          go_wp2_with fail
          go_region_held3 (fun W => W.cell? ⟨b, o + k * 4 + 1, none⟩ = some (.int .i64 (xx : Int)) ∧ W.cell? ⟨b, o + k * 4 + 2, none⟩ = some (.int .i64 (nn : Int))) (first | exact ⟨g1, g2⟩ | exact ⟨g1', g2'⟩) ((go_at_call 22; refine p1.out.mono ?_; rintro e w3 ⟨v3, rfl, hW3, hB3, hn3⟩; have hb3 := below_frame hbd hB3 (fun j _ hj => Nat.le_trans s0 (hW.foot (Nat.le_refl _) j hj).1) hbd.size; obtain ⟨-, g1', g2', -⟩ := hcell.out w3 hb3))
          have hR3 := hR.drew.beside hW.drew hB3 hap.symm
          have hap3 := hap.symm.next hR.vsize hn3
          have s3 := hB3.size
          have hs0 : wr.drew.heap.size = wr.heap.size := rfl
          clear hW hR hB3 p1 hbd hn3
          have p2 := Lib.hid (rput_yes hR3.drew xx nn (by omega) hxx (by show w1.heap.size ≤ w3.heap.size; omega) (by omega))
          have hbd3 := hb3.drew
          go_wp2_with fail
          go_region_held3 (fun W => W.cell? ⟨b, o + k * 4 + 1, none⟩ = some (.int .i64 (xx : Int)) ∧ W.cell? ⟨b, o + k * 4 + 2, none⟩ = some (.int .i64 (nn : Int))) (first | exact ⟨g1', g2'⟩ | exact ⟨g1'', g2''⟩) ((go_at_call 28; refine p2.out.mono ?_; rintro e w5 ⟨v5, rfl, hR5, hB5, hn5⟩; have hb5 := below_frame hbd3 hB5 (fun j _ hj => by have := (hR3.foot (Nat.le_refl _) j hj).1; omega) hbd3.size; obtain ⟨-, g1'', g2'', -⟩ := hcell.out w5 hb5))
          have hW5 := hW3.drew.beside hR3.drew hB5 hap3.symm
          have hap5 := hap3.symm.next hW3.vsize hn5
          clear hW3 hR3 hB5 p2 hbd3 hn5 hap3
          have hWd := hW5.drew
          have hRd := hR5.drew
          have hbd5 := hb5.drew
          have hl5 := Lib.hid (len_any hWd)
          have hwb := Lib.hid (wbytes_any hWd)
          obtain ⟨a5, c5, rfl, -⟩ := hR5.shape
          have x0 := hR5.blk.cell 0
          simp only [List.getElem?_toArray, List.getElem?_cons_zero] at x0
          have hgl : (fs ++ numBits high xx nn nn).length ≤ 1000 * (k + 1) := by rw [List.length_append, numBits_length]; omega
          have hgl' := Lib.hid hgl
          have hpl := Lib.hid (packB_length high (fs ++ numBits high xx nn nn))
          have hgl2 : (fs ++ numBits high xx nn nn).length ≤ 200000 := by omega
          clear hgl
          generalize hgs : fs ++ numBits high xx nn nn = gs at *
          have hgs' := Lib.hid hgs; clear hgs
          go_wp2_with fail
          go_region_held3 (fun W => W.cell? ⟨w1.heap.size, 0, none⟩ = some (.slice a5 gs.length c5)) (first | exact x0 | exact x1 | exact x2 | exact x3) (first | (go_at_call 24; refine hl5.out.mono ?_; rintro e w6 ⟨rfl, rfl⟩) | (go_at_call 23; refine hwb.out.mono ?_; rintro e w6 ⟨a6, c6, rfl, ho6, hb6'⟩; have hW6 := hWd.below hb6'; have hR6 := hRd.below hb6'; have hb6 := hbd5.trans (hb6'.mono hbd5.size); have x1 := hR6.blk.cell 0; simp only [List.getElem?_toArray, List.getElem?_cons_zero] at x1; have hro := Lib.hid (rout_any hR6 (by omega)); clear hWd hRd hb6' hwb) | (go_at_call 33; refine hro.out.mono ?_; rintro e w7 ⟨a7, c7, rfl, ho7, hb7'⟩; have hW7 := hW6.below hb7'; have hR7 := hR6.below hb7'; have hb7 := hb6.trans (hb7'.mono hb6.size); have ho67 := own_below ho6 hb7'; have x2 := hR7.blk.cell 0; simp only [List.getElem?_toArray, List.getElem?_cons_zero] at x2; have hsm := Lib.hid (same_any _ _ _ _ _ _ _ _ _ (own_bts ho67 (by have := hpl.out; omega)) (own_bts ho7 (by have := hpl.out; omega))); clear hW6 hR6 hb7' hro ho6) | (go_at_call 25; refine hsm.out.mono ?_; rintro e w8 ⟨rfl, hb8'⟩; have hW8 := hW7.below hb8'; have hR8 := hR7.below hb8'; have hb8 := hb7.trans (hb8'.mono hb7.size); have x3 := hR8.blk.cell 0; simp only [List.getElem?_toArray, List.getElem?_cons_zero] at x3; clear hW7 hR7 hb8' hsm))
          go_wp2_with fail
          go_roundw
          case rel => exact ⟨k + 1, _, _, gs, by omega, by go_num, hgl'.out, hW8, hR8, hap5, hb8, Nat.le_of_lt hR8.lt⟩
          case measure => simp [intOf]; omega
        · skip
          have hnf := not_fits hp
          have p1 := Lib.hid (put_no hW.drew N X hnf r1.2)
          have p2 := Lib.hid (fun W => rput_no (w := W) (b := w1.heap.size) N X hnf)
          have hbd := hb.drew
          clear hnf hp
          go_wp2_with fail
          go_region_held3 (fun W => W.cell? ⟨b, o + k * 4 + 1, none⟩ = some (.int .i64 X) ∧ W.cell? ⟨b, o + k * 4 + 2, none⟩ = some (.int .i64 N)) (exact ⟨g1, g2⟩) ((go_at_call 22; refine p1.out.mono ?_; rintro e w3 ⟨rfl, rfl⟩))
          go_wp2_with fail
          go_region_held3 (fun W => W.cell? ⟨b, o + k * 4 + 1, none⟩ = some (.int .i64 X) ∧ W.cell? ⟨b, o + k * 4 + 2, none⟩ = some (.int .i64 N)) (exact ⟨g1, g2⟩) ((go_at_call 28; refine (p2.out _).mono ?_; rintro e w3 ⟨rfl, rfl⟩))
          have hW5 := hW.drew.drew
          have hR5 := hR.drew.drew
          have hb5 := hbd.drew
          have hap5 := hap
          clear hW hR hb p1 p2 hbd
          generalize wr.drew.drew = w5 at *
          have hWd := hW5.drew
          have hRd := hR5.drew
          have hbd5 := hb5.drew
          have hl5 := Lib.hid (len_any hWd)
          have hwb := Lib.hid (wbytes_any hWd)
          obtain ⟨a5, c5, rfl, -⟩ := hR5.shape
          have x0 := hR5.blk.cell 0
          simp only [List.getElem?_toArray, List.getElem?_cons_zero] at x0
          have hgl : (fs).length ≤ 1000 * (k + 1) := by omega
          have hgl' := Lib.hid hgl
          have hpl := Lib.hid (packB_length high (fs))
          have hgl2 : (fs).length ≤ 200000 := by omega
          clear hgl
          generalize hgs : fs = gs at *
          have hgs' := Lib.hid hgs; clear hgs
          go_wp2_with fail
          go_region_held3 (fun W => W.cell? ⟨w1.heap.size, 0, none⟩ = some (.slice a5 gs.length c5)) (first | exact x0 | exact x1 | exact x2 | exact x3) (first | (go_at_call 24; refine hl5.out.mono ?_; rintro e w6 ⟨rfl, rfl⟩) | (go_at_call 23; refine hwb.out.mono ?_; rintro e w6 ⟨a6, c6, rfl, ho6, hb6'⟩; have hW6 := hWd.below hb6'; have hR6 := hRd.below hb6'; have hb6 := hbd5.trans (hb6'.mono hbd5.size); have x1 := hR6.blk.cell 0; simp only [List.getElem?_toArray, List.getElem?_cons_zero] at x1; have hro := Lib.hid (rout_any hR6 (by omega)); clear hWd hRd hb6' hwb) | (go_at_call 33; refine hro.out.mono ?_; rintro e w7 ⟨a7, c7, rfl, ho7, hb7'⟩; have hW7 := hW6.below hb7'; have hR7 := hR6.below hb7'; have hb7 := hb6.trans (hb7'.mono hb6.size); have ho67 := own_below ho6 hb7'; have x2 := hR7.blk.cell 0; simp only [List.getElem?_toArray, List.getElem?_cons_zero] at x2; have hsm := Lib.hid (same_any _ _ _ _ _ _ _ _ _ (own_bts ho67 (by have := hpl.out; omega)) (own_bts ho7 (by have := hpl.out; omega))); clear hW6 hR6 hb7' hro ho6) | (go_at_call 25; refine hsm.out.mono ?_; rintro e w8 ⟨rfl, hb8'⟩; have hW8 := hW7.below hb8'; have hR8 := hR7.below hb8'; have hb8 := hb7.trans (hb8'.mono hb7.size); have x3 := hR8.blk.cell 0; simp only [List.getElem?_toArray, List.getElem?_cons_zero] at x3; clear hW7 hR7 hb8' hsm))
          go_wp2_with fail
          go_roundw
          case rel => exact ⟨k + 1, _, _, gs, by omega, by go_num, hgl'.out, hW8, hR8, hap5, hb8, Nat.le_of_lt hR8.lt⟩
          case measure => simp [intOf]; omega
      · skip
        by_cases hD6 : D = 6
        · subst hD6
          go_wp2_with fail
          refine (walign_any hW (by omega)).mono ?_
          rintro e w3 ⟨v3, rfl, hW3, hB3, hn3⟩
          have hb3 := below_frame hb hB3 (fun j _ hj => Nat.le_trans s0 (hW.foot (Nat.le_refl _) j hj).1) hb.size
          have hR3 := hR.beside hW hB3 hap.symm
          have hap3 := hap.symm.next hR.vsize hn3
          have s3 := hB3.size
          clear hW hR hB3 hn3
          go_wp2_with fail
          refine (rfill_any hR3 (by omega) (by omega)).mono ?_
          rintro e w5 ⟨v5, rfl, hR5, hB5, hn5⟩
          have hb5 := below_frame hb3 hB5 (fun j _ hj => by have := (hR3.foot (Nat.le_refl _) j hj).1; omega) hb3.size
          have hW5 := hW3.beside hR3 hB5 hap3.symm
          have hap5 := hap3.symm.next hW3.vsize hn5
          clear hW3 hR3 hB5 hn5 hap3
          have hWd := hW5.drew
          have hRd := hR5.drew
          have hbd5 := hb5.drew
          have hl5 := Lib.hid (len_any hWd)
          have hwb := Lib.hid (wbytes_any hWd)
          obtain ⟨a5, c5, rfl, -⟩ := hR5.shape
          have x0 := hR5.blk.cell 0
          simp only [List.getElem?_toArray, List.getElem?_cons_zero] at x0
          have hgl : (fill8 fs).length ≤ 1000 * (k + 1) := by rw [fill8_length]; omega
          have hgl' := Lib.hid hgl
          have hpl := Lib.hid (packB_length high (fill8 fs))
          have hgl2 : (fill8 fs).length ≤ 200000 := by omega
          clear hgl
          generalize hgs : fill8 fs = gs at *
          have hgs' := Lib.hid hgs; clear hgs
          go_wp2_with fail
          go_region_held3 (fun W => W.cell? ⟨w1.heap.size, 0, none⟩ = some (.slice a5 gs.length c5)) (first | exact x0 | exact x1 | exact x2 | exact x3) (first | (go_at_call 24; refine hl5.out.mono ?_; rintro e w6 ⟨rfl, rfl⟩) | (go_at_call 23; refine hwb.out.mono ?_; rintro e w6 ⟨a6, c6, rfl, ho6, hb6'⟩; have hW6 := hWd.below hb6'; have hR6 := hRd.below hb6'; have hb6 := hbd5.trans (hb6'.mono hbd5.size); have x1 := hR6.blk.cell 0; simp only [List.getElem?_toArray, List.getElem?_cons_zero] at x1; have hro := Lib.hid (rout_any hR6 (by omega)); clear hWd hRd hb6' hwb) | (go_at_call 33; refine hro.out.mono ?_; rintro e w7 ⟨a7, c7, rfl, ho7, hb7'⟩; have hW7 := hW6.below hb7'; have hR7 := hR6.below hb7'; have hb7 := hb6.trans (hb7'.mono hb6.size); have ho67 := own_below ho6 hb7'; have x2 := hR7.blk.cell 0; simp only [List.getElem?_toArray, List.getElem?_cons_zero] at x2; have hsm := Lib.hid (same_any _ _ _ _ _ _ _ _ _ (own_bts ho67 (by have := hpl.out; omega)) (own_bts ho7 (by have := hpl.out; omega))); clear hW6 hR6 hb7' hro ho6) | (go_at_call 25; refine hsm.out.mono ?_; rintro e w8 ⟨rfl, hb8'⟩; have hW8 := hW7.below hb8'; have hR8 := hR7.below hb8'; have hb8 := hb7.trans (hb8'.mono hb7.size); have x3 := hR8.blk.cell 0; simp only [List.getElem?_toArray, List.getElem?_cons_zero] at x3; clear hW7 hR7 hb8' hsm))
          go_wp2_with fail
          go_roundw
          case rel => exact ⟨k + 1, _, _, gs, by omega, by go_num, hgl'.out, hW8, hR8, hap5, hb8, Nat.le_of_lt hR8.lt⟩
          case measure => simp [intOf]; omega
        · have hD7 : (D == 6) = false := by simp; exact hD6
          have hbw := hbts.below hb (Nat.le_refl _)
          have hbk := Lib.hid hbts.blk
          have hll := hbw.len
          go_wp2_with fail
          refine (wadd_any hW ba bn bc bl hbw (by omega) (by omega)).mono ?_
          rintro e w3 ⟨v3, rfl, hW3, hB3, hn3⟩
          have hb3 := below_frame hb hB3 (fun j _ hj => Nat.le_trans s0 (hW.foot (Nat.le_refl _) j hj).1) hb.size
          have hR3 := hR.beside hW hB3 hap.symm
          have hap3 := hap.symm.next hR.vsize hn3
          have s3 := hB3.size
          obtain ⟨-, -, -, g3'⟩ := hcell.out w3 hb3
          have hbw3 := hbts.below hb3 (Nat.le_refl _)
          clear hW hR hB3 hn3 hbw
          go_wp2_with fail
          refine (radd_any hR3 ba bn bc bl hbw3 (by omega) (by omega) (fun h0 y hy => by have := hbk.out h0 y hy; omega) (Nat.le_refl _)).mono ?_
          rintro e w5 ⟨v5, rfl, hR5, hB5, hn5⟩
          have hb5 := below_frame hb3 hB5 (fun j _ hj => by have := (hR3.foot (Nat.le_refl _) j hj).1; omega) hb3.size
          have hW5 := hW3.beside hR3 hB5 hap3.symm
          have hap5 := hap3.symm.next hW3.vsize hn5
          clear hW3 hR3 hB5 hn5 hap3 hbw3
          have hWd := hW5.drew
          have hRd := hR5.drew
          have hbd5 := hb5.drew
          have hl5 := Lib.hid (len_any hWd)
          have hwb := Lib.hid (wbytes_any hWd)
          obtain ⟨a5, c5, rfl, -⟩ := hR5.shape
          have x0 := hR5.blk.cell 0
          simp only [List.getElem?_toArray, List.getElem?_cons_zero] at x0
          have hgl : (fill8 fs ++ unpackB high bl).length ≤ 1000 * (k + 1) := by rw [List.length_append, fill8_length, unpackB_length]; omega
          have hgl' := Lib.hid hgl
          have hpl := Lib.hid (packB_length high (fill8 fs ++ unpackB high bl))
          have hgl2 : (fill8 fs ++ unpackB high bl).length ≤ 200000 := by omega
          clear hgl
          generalize hgs : fill8 fs ++ unpackB high bl = gs at *
          have hgs' := Lib.hid hgs; clear hgs
          go_wp2_with fail
          go_region_held3 (fun W => W.cell? ⟨w1.heap.size, 0, none⟩ = some (.slice a5 gs.length c5)) (first | exact x0 | exact x1 | exact x2 | exact x3) (first | (go_at_call 24; refine hl5.out.mono ?_; rintro e w6 ⟨rfl, rfl⟩) | (go_at_call 23; refine hwb.out.mono ?_; rintro e w6 ⟨a6, c6, rfl, ho6, hb6'⟩; have hW6 := hWd.below hb6'; have hR6 := hRd.below hb6'; have hb6 := hbd5.trans (hb6'.mono hbd5.size); have x1 := hR6.blk.cell 0; simp only [List.getElem?_toArray, List.getElem?_cons_zero] at x1; have hro := Lib.hid (rout_any hR6 (by omega)); clear hWd hRd hb6' hwb) | (go_at_call 33; refine hro.out.mono ?_; rintro e w7 ⟨a7, c7, rfl, ho7, hb7'⟩; have hW7 := hW6.below hb7'; have hR7 := hR6.below hb7'; have hb7 := hb6.trans (hb7'.mono hb6.size); have ho67 := own_below ho6 hb7'; have x2 := hR7.blk.cell 0; simp only [List.getElem?_toArray, List.getElem?_cons_zero] at x2; have hsm := Lib.hid (same_any _ _ _ _ _ _ _ _ _ (own_bts ho67 (by have := hpl.out; omega)) (own_bts ho7 (by have := hpl.out; omega))); clear hW6 hR6 hb7' hro ho6) | (go_at_call 25; refine hsm.out.mono ?_; rintro e w8 ⟨rfl, hb8'⟩; have hW8 := hW7.below hb8'; have hR8 := hR7.below hb8'; have hb8 := hb7.trans (hb8'.mono hb7.size); have x3 := hR8.blk.cell 0; simp only [List.getElem?_toArray, List.getElem?_cons_zero] at x3; clear hW7 hR7 hb8' hsm))
          go_wp2_with fail
          go_roundw
          case rel => exact ⟨k + 1, _, _, gs, by omega, by go_num, hgl'.out, hW8, hR8, hap5, hb8, Nat.le_of_lt hR8.lt⟩
          case measure => simp [intOf]; omega
    · obtain rfl : k = n := by omega
      go_wp2_with fail
      go_ret
      exact ⟨rfl, hb⟩
end Go.Proofs.Ytdfoimgckahjpaa
