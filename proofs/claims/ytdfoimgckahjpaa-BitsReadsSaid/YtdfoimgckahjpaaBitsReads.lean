/-
  The walk of the statement BitsReads. No conditions.
-/
import Derived.Test.YtdfoimgckahjpaaBitsRoom
import Derived.Test.YtdfoimgckahjpaaBitsRd2
namespace Go.Proofs.Ytdfoimgckahjpaa
open Go.RowKit
theorem Rd.grown2 {w w' : World} {b : Nat} {a : Option Addr} {c : Nat} {high : Bool} {l : List UInt8} {n k : Nat} (h : Rd w b a c high l n) (hg : w.grownBy w' (some k)) (hb : b ≠ k) (ha : 0 < l.length → ∀ x, a = some x → x.block ≠ k) : Rd w' b a c high l n :=
  ⟨h.blk.grown hg (by simpa using hb), h.bts.grown hg ha, h.ne, h.le, h.few⟩
theorem Rf.grown {w w' : World} {S b k : Nat} {v : Value} {high : Bool} {fs : List Bool} {at_ : Nat} (h : Rf w S b v high fs at_) (hg : w.grownBy w' (some k)) (hb : b ≠ k) (hv : v.ownBlock ≠ some k) : Rf w' S b v high fs at_ :=
  h.but (ButOf.of_grown (K := fun i => i = k) hg (fun i hi => (Option.some.inj hi).symm)) hb (fun i hi e => hv (by rw [hi, e]))
theorem num_short {high : Bool} {f : Nat → Bool} {k m : Nat} (hm : m ≤ k) (hf : ∀ j, m ≤ j → j < k → f j = false) : num high f k m = num high f k k := by
  apply Nat.eq_of_testBit_eq
  intro j
  rw [num_testBit high f k m hm, num_testBit high f k k (Nat.le_refl _)]
  by_cases h : plc high j k < m
  · have h2 : plc high j k < k := by omega
    simp [h, h2]
  · by_cases h3 : j < k
    · have h4 := plc_lt (high := high) h3
      rw [hf _ (by omega) h4]; simp
    · simp [h3]
theorem bts_nil (w : World) : Bts w none 0 0 [] := ⟨rfl, Nat.le_refl _, by omega, by omega, fun _ => rfl, fun j hj => by omega⟩
set_option maxRecDepth 100000 in
theorem reads_out {w : World} {a0 a : Option Addr} {n0 c0 n c : Nat} {f : Nat → DV} {high : Bool} (h : Deeds w a n c f) (hc0 : n0 ≤ 9223372036854775807) (hr : 500 < n0 ∨ roomB n f = false) :
    Calls Try.prog 9 #[.slice a0 n0 c0, .bool high, .slice a n c] w fun e w' => e = .returned (.bool true) ∧ Below w.heap.size w w' := by
  by_cases h0 : 500 < n0
  · go_enter Try.func9, Try.ntmps9
    go_wp2_with (go_at_call 15; refine (awake_any _).mono ?_; rintro e w0 ⟨rfl, hb0⟩)
    go_ret
    exact ⟨rfl, hb0⟩
  · have hr' : roomB n f = false := by rcases hr with e | e; exact absurd e h0; exact e
    have hc1 := h.cap
    have hc2 := h.most
    have hroom := fun W (hb : Below w.heap.size w W) => room_any (h.below hb)
    rw [hr'] at hroom
    have hroom' := Lib.hid hroom
    clear hroom hr hr'
    go_enter Try.func9, Try.ntmps9
    go_wp2_with (go_at_call 15; refine (awake_any _).mono ?_; rintro e w0 ⟨rfl, hb0⟩)
    refine (hroom'.out _ hb0).mono ?_
    rintro e w0' ⟨rfl, rfl⟩
    go_wp2_with fail
    go_ret
    exact ⟨rfl, hb0⟩
set_option maxRecDepth 100000 in
set_option maxHeartbeats 4000000 in
theorem reads_in {w : World} {a0 a : Option Addr} {n0 c0 n c : Nat} {f : Nat → DV} {high : Bool} {l : List UInt8} (hB : Bts w a0 n0 c0 l) (h0 : n0 ≤ 500) (h : Deeds w a n c f) (hr : roomB n f = true) :
    Calls Try.prog 9 #[.slice a0 n0 c0, .bool high, .slice a n c] w fun e w' => e = .returned (.bool true) ∧ Below w.heap.size w w' := by
  obtain ⟨hn, -⟩ := roomB_yes hr
  have hl := hB.len
  have hll : l.length ≤ 500 := by omega
  have hl' := Lib.hid hl; clear hl
  have hc1 := h.cap
  have hc2 := h.most
  have hroom := fun W (hb : Below w.heap.size w W) => room_any (h.below hb)
  rw [hr] at hroom
  have hroom' := Lib.hid hroom
  clear hroom hr
  go_enter Try.func9, Try.ntmps9
  go_wp2_with (go_at_call 15; refine (awake_any _).mono ?_; rintro e w0 ⟨rfl, hb0⟩)
  refine (hroom'.out _ hb0).mono ?_
  rintro e w0' ⟨rfl, rfl⟩
  clear hroom'
  have s0 := hb0.size
  go_wp2_with fail
  refine (new_reader _ _ _ l high _ (hB.below hb0 (Nat.le_refl _)) (by omega)).mono ?_
  rintro e w1 ⟨b1, a1, c1, rfl, hR1, hl1, -, hb1'⟩
  have hb1 := hb0.trans (hb1'.mono hb0.size)
  have hB1 := hB.below hb1 (Nat.le_refl _)
  have s1 := hb1'.size
  clear hb1'
  go_wp2_with fail
  refine (ropen_any _ _ _ l high w1 hB1 (by omega)).mono ?_
  rintro e w2 ⟨v2, rfl, hM2, hb2'⟩
  have hb2 := hb1.trans (hb2'.mono hb1.size)
  have hR2 := hR1.below hb2' (Nat.le_refl _)
  have hx : 0 < l.length → ∀ x, a1 = some x → x.block ≠ w1.heap.size := hR1.bts.ne (Nat.le_refl _)
  have hlt1 := hR1.lt
  have hne : b1 ≠ w1.heap.size := by omega
  have hv2 : v2.ownBlock ≠ some b1 := fun e => by have := (hM2.own.lt b1 e).1; omega
  have hfl := Lib.hid (unpackB_length high l)
  clear hR1 hB1 hb2' hB
  go_wp2_with fail
  go_loopw [9] (fun i wr => ∃ (k p : Nat), k ≤ n ∧ i = .int .i64 k ∧ Rd wr b1 a1 c1 high l p ∧ Rf wr w1.heap.size w1.heap.size v2 high (unpackB high l) p ∧ Below w.heap.size w wr) (fun i _ => n - (intOf i).toNat)
  case atStart => exact ⟨0, 0, by omega, rfl, hR2, hM2, hb2⟩
  case round =>
    clear hR2 hM2 hb2
    obtain ⟨k, p, hk, rfl, hR, hM, hb⟩ := hrel
    by_cases hlt : k < n
    · obtain ⟨b, o, rfl, g0, -, g2, -⟩ := h.at_ hb hlt
      obtain ⟨r0, -, r2⟩ := h.rng k hlt
      unfold I64 at r0 r2
      have hk1 : (0 : Int) ≤ (k : Int) := by omega
      have hk2 : (k : Int) < (n : Int) := by omega
      have hcell := Lib.hid (fun W (hW : Below w.heap.size w W) => h.get hW hlt)
      have hple := hR.le
      generalize (f k).d = D at *
      generalize (f k).x = X at *
      generalize (f k).n = N at *
      by_cases hD4 : D ≤ 4
      · by_cases hy : 0 ≤ N ∧ N ≤ 32 ∧ N ≤ ((8 * l.length - p : Nat) : Int)
        · skip
          obtain ⟨nn, rfl⟩ := Int.eq_ofNat_of_zero_le (show 0 ≤ N by omega)
          have t1 := take_yes hR nn (by omega) (by omega)
          have t2 := fun W (hM : Rf W w1.heap.size w1.heap.size v2 high (unpackB high l) p) => rtake_yes hM nn (by omega) (by rw [unpackB_length]; omega)
          simp only [unpackB_getD] at t2
          generalize num high (fun j => bitAt high l (p + j)) nn nn = V at *
          have t1' := Lib.hid t1; clear t1
          have t2' := Lib.hid t2; clear t2
          go_wp2_with fail
          refine t1'.out.mono ?_
          rintro e w3 ⟨rfl, hR3, hg3⟩
          have hM3 := hM.grown hg3 (Ne.symm hne) hv2
          have hb3 := below_grow hb hg3 hb.size (by omega)
          obtain ⟨-, -, g2', -⟩ := hcell.out w3 hb3
          clear hR hM hg3 t1' g0 g2
          go_wp2_with fail
          refine (t2'.out _ hM3).mono ?_
          rintro e w5 ⟨rfl, hM5, hg5⟩
          have hR5 := hR3.grown2 hg5 hne hx
          have hb5 := below_grow hb3 hg5 hb3.size (by omega)
          clear hR3 hM3 hg5 t2' g2'

          have t1 := left_any hR5
          have t2 := fun q => rleft_any (hM5.drewN q)
          simp only [unpackB_length] at t2
          generalize 8 * l.length - (p + nn) = Z at *
          have t1' := Lib.hid t1; clear t1
          have t2' := Lib.hid t2; clear t2
          go_wp2_with fail
          refine t1'.out.mono ?_
          rintro e w6 ⟨rfl, q, rfl⟩
          go_wp2_with fail
          refine (t2'.out q).mono ?_
          rintro e w7 ⟨rfl, q2, rfl⟩
          have hR7 := (hR5.below (below_drewN (Below.refl _ _) q) (Nat.le_refl _)).below (below_drewN (Below.refl _ _) q2) (Nat.le_refl _)
          have hM7 := (hM5.drewN q).drewN q2
          have hb7 := below_drewN (below_drewN hb5 q) q2
          clear hR5 hM5 hb5 t1' t2'
          rw [World.drewN_drewN] at hR7 hM7 hb7
          go_wp2_with fail
          go_roundw
          case rel => exact ⟨k + 1, (p + nn), by omega, by go_num, hR7, hM7, hb7⟩
          case measure => simp [intOf]; omega
        · skip
          have hN : N < 0 ∨ 32 < N ∨ ((8 * l.length - p : Nat) : Int) < N := by omega
          have t1 := Lib.hid (take_no hR N hN)
          have t2 := Lib.hid (fun q => rtake_no (hM.drewN q) N (by rw [unpackB_length]; exact hN))
          clear hN hy
          go_wp2_with fail
          refine t1.out.mono ?_
          rintro e w3 ⟨rfl, q, rfl⟩
          go_wp2_with fail
          refine (t2.out q).mono ?_
          rintro e w5 ⟨rfl, q2, rfl⟩
          have hR5 := (hR.below (below_drewN (Below.refl _ _) q) (Nat.le_refl _)).below (below_drewN (Below.refl _ _) q2) (Nat.le_refl _)
          have hM5 := (hM.drewN q).drewN q2
          have hb5 := below_drewN (below_drewN hb q) q2
          generalize (wr.drewN q).drewN q2 = w5 at *
          clear hR hM t1 t2

          have t1 := left_any hR5
          have t2 := fun q => rleft_any (hM5.drewN q)
          simp only [unpackB_length] at t2
          generalize 8 * l.length - p = Z at *
          have t1' := Lib.hid t1; clear t1
          have t2' := Lib.hid t2; clear t2
          go_wp2_with fail
          refine t1'.out.mono ?_
          rintro e w6 ⟨rfl, q, rfl⟩
          go_wp2_with fail
          refine (t2'.out q).mono ?_
          rintro e w7 ⟨rfl, q2, rfl⟩
          have hR7 := (hR5.below (below_drewN (Below.refl _ _) q) (Nat.le_refl _)).below (below_drewN (Below.refl _ _) q2) (Nat.le_refl _)
          have hM7 := (hM5.drewN q).drewN q2
          have hb7 := below_drewN (below_drewN hb5 q) q2
          clear hR5 hM5 hb5 t1' t2'
          rw [World.drewN_drewN] at hR7 hM7 hb7
          go_wp2_with fail
          go_roundw
          case rel => exact ⟨k + 1, p, by omega, by go_num, hR7, hM7, hb7⟩
          case measure => simp [intOf]; omega
      · by_cases hD6 : D ≤ 6
        · by_cases hy : 0 ≤ N ∧ N ≤ 32
          · skip
            obtain ⟨nn, rfl⟩ := Int.eq_ofNat_of_zero_le (show 0 ≤ N by omega)
            have t1 := peek_yes hR nn (by omega) _ rfl
            have t2 := fun W (hM : Rf W w1.heap.size w1.heap.size v2 high (unpackB high l) p) => rpeek_yes hM nn (by omega)
            simp only [unpackB_getD, unpackB_length] at t2
            rw [num_short (Nat.min_le_left _ _) (fun j hj hj2 => bitAt_ge (by omega))] at t1
            generalize num high (fun j => bitAt high l (p + j)) nn nn = V at *
            generalize min nn (8 * l.length - p) = M at *
            have t1' := Lib.hid t1; clear t1
            have t2' := Lib.hid t2; clear t2
            go_wp2_with fail
            refine t1'.out.mono ?_
            rintro e w3 ⟨rfl, hb3'⟩
            have hM3 := hM.below hb3'
            have hR3 := hR.below hb3' (Nat.le_refl _)
            have hb3 := hb.trans (hb3'.mono hb.size)
            obtain ⟨-, -, g2', -⟩ := hcell.out w3 hb3
            clear hR hM hb3' t1' g0 g2
            go_wp2_with fail
            refine (t2'.out _ hM3).mono ?_
            rintro e w5 ⟨rfl, q, rfl⟩
            have hR5 := hR3.below (below_drewN (Below.refl _ _) q) (Nat.le_refl _)
            have hM5 := hM3.drewN q
            have hb5 := below_drewN hb3 q
            clear hR3 hM3 t2' g2'
            generalize w3.drewN q = w5 at *

            have t1 := left_any hR5
            have t2 := fun q => rleft_any (hM5.drewN q)
            simp only [unpackB_length] at t2
            generalize 8 * l.length - p = Z at *
            have t1' := Lib.hid t1; clear t1
            have t2' := Lib.hid t2; clear t2
            go_wp2_with fail
            refine t1'.out.mono ?_
            rintro e w6 ⟨rfl, q, rfl⟩
            go_wp2_with fail
            refine (t2'.out q).mono ?_
            rintro e w7 ⟨rfl, q2, rfl⟩
            have hR7 := (hR5.below (below_drewN (Below.refl _ _) q) (Nat.le_refl _)).below (below_drewN (Below.refl _ _) q2) (Nat.le_refl _)
            have hM7 := (hM5.drewN q).drewN q2
            have hb7 := below_drewN (below_drewN hb5 q) q2
            clear hR5 hM5 hb5 t1' t2'
            rw [World.drewN_drewN] at hR7 hM7 hb7
            go_wp2_with fail
            go_roundw
            case rel => exact ⟨k + 1, p, by omega, by go_num, hR7, hM7, hb7⟩
            case measure => simp [intOf]; omega
          · skip
            have hN : N < 0 ∨ 32 < N := by omega
            have t1 := Lib.hid (peek_no hR N hN)
            have t2 := Lib.hid (fun W => rpeek_no (w := W) (b := w1.heap.size) N hN)
            clear hN hy
            go_wp2_with fail
            refine t1.out.mono ?_
            rintro e w3 ⟨rfl, rfl⟩
            go_wp2_with fail
            refine (t2.out _).mono ?_
            rintro e w5 ⟨rfl, rfl⟩
            have hR5 := hR
            have hM5 := hM
            have hb5 := hb
            clear hR hM hb t1 t2

            have t1 := left_any hR5
            have t2 := fun q => rleft_any (hM5.drewN q)
            simp only [unpackB_length] at t2
            generalize 8 * l.length - p = Z at *
            have t1' := Lib.hid t1; clear t1
            have t2' := Lib.hid t2; clear t2
            go_wp2_with fail
            refine t1'.out.mono ?_
            rintro e w6 ⟨rfl, q, rfl⟩
            go_wp2_with fail
            refine (t2'.out q).mono ?_
            rintro e w7 ⟨rfl, q2, rfl⟩
            have hR7 := (hR5.below (below_drewN (Below.refl _ _) q) (Nat.le_refl _)).below (below_drewN (Below.refl _ _) q2) (Nat.le_refl _)
            have hM7 := (hM5.drewN q).drewN q2
            have hb7 := below_drewN (below_drewN hb5 q) q2
            clear hR5 hM5 hb5 t1' t2'
            rw [World.drewN_drewN] at hR7 hM7 hb7
            go_wp2_with fail
            go_roundw
            case rel => exact ⟨k + 1, p, by omega, by go_num, hR7, hM7, hb7⟩
            case measure => simp [intOf]; omega
        · by_cases hD7 : D = 7
          · subst hD7
            go_wp2_with fail
            refine (align_any hR).mono ?_
            rintro e w3 ⟨rfl, hR3, hg3⟩
            have hM3 := hM.grown hg3 (Ne.symm hne) hv2
            have hb3 := below_grow hb hg3 hb.size (by omega)
            clear hR hM hg3
            have t2 := Lib.hid (ralign_any hM3 (by rw [unpackB_length]; omega))
            go_wp2_with fail
            refine t2.out.mono ?_
            rintro e w5 ⟨rfl, hM5, hg5⟩
            have hR5 := hR3.grown2 hg5 hne hx
            have hb5 := below_grow hb3 hg5 hb3.size (by omega)
            clear hR3 hM3 hg5 t2

            have t1 := left_any hR5
            have t2 := fun q => rleft_any (hM5.drewN q)
            simp only [unpackB_length] at t2
            generalize 8 * l.length - ((p + 7) / 8 * 8) = Z at *
            have t1' := Lib.hid t1; clear t1
            have t2' := Lib.hid t2; clear t2
            go_wp2_with fail
            refine t1'.out.mono ?_
            rintro e w6 ⟨rfl, q, rfl⟩
            go_wp2_with fail
            refine (t2'.out q).mono ?_
            rintro e w7 ⟨rfl, q2, rfl⟩
            have hR7 := (hR5.below (below_drewN (Below.refl _ _) q) (Nat.le_refl _)).below (below_drewN (Below.refl _ _) q2) (Nat.le_refl _)
            have hM7 := (hM5.drewN q).drewN q2
            have hb7 := below_drewN (below_drewN hb5 q) q2
            clear hR5 hM5 hb5 t1' t2'
            rw [World.drewN_drewN] at hR7 hM7 hb7
            go_wp2_with fail
            go_roundw
            case rel => exact ⟨k + 1, ((p + 7) / 8 * 8), by omega, by go_num, hR7, hM7, hb7⟩
            case measure => simp [intOf]; omega
          · have hD8 : (D == 7) = false := by simp; exact hD7
            by_cases hy : 0 ≤ N ∧ N ≤ ((l.length - (p + 7) / 8 : Nat) : Int)
            · skip
              obtain ⟨nn, rfl⟩ := Int.eq_ofNat_of_zero_le (show 0 ≤ N by omega)
              have t1 := Lib.hid (bytes_yes hR nn ((p + 7) / 8) rfl (by omega))
              have t2 := fun W (hM : Rf W w1.heap.size w1.heap.size v2 high (unpackB high l) p) => rbytes_yes hM (by rw [unpackB_length]; omega) nn ((p + 7) / 8) rfl (by rw [unpackB_length]; omega) hM.lt
              have hlt2 := hM.lt
              have hltR := hR.lt
              go_wp2_with fail
              refine t1.out.mono ?_
              rintro e w3 ⟨x3, rfl, ho3, hR3, hg3⟩
              have hM3 := hM.grown hg3 (Ne.symm hne) hv2
              have hb3 := below_grow hb hg3 hb.size (by omega)
              obtain ⟨-, -, g2', -⟩ := hcell.out w3 hb3
              have t2' := Lib.hid (t2 _ hM3)
              clear hR hM hg3 t1 t2 g0 g2
              go_wp2_with fail
              refine t2'.out.mono ?_
              rintro e w5 ⟨x5, rfl, ho5, hM5, hg5⟩
              have hR5 := hR3.grown2 hg5 hne hx
              have hb5 := below_grow hb3 hg5 hb3.size (by omega)
              rw [packB_unpackB] at ho5
              have ho35 := own_grown ho3 hg5 hlt2
              obtain ⟨a3, c3, rfl, hB3⟩ := Bts.of_own ho35 (by omega)
              obtain ⟨a5, c5, rfl, hB5⟩ := Bts.of_own ho5 (by omega)
              have hsm := same_any _ _ _ _ _ _ _ _ _ hB3 hB5
              rw [decide_eq_true rfl] at hsm
              have hsm' := Lib.hid hsm
              clear hR3 hM3 hg5 t2' g2' ho3 ho5 ho35 hB3 hB5 hsm
              go_wp2_with fail
              refine hsm'.out.mono ?_
              rintro e w6 ⟨rfl, hb6'⟩
              replace hR5 := hR5.below hb6' (Nat.le_refl _)
              replace hM5 := hM5.below hb6'
              replace hb5 := hb5.trans (hb6'.mono hb5.size)
              clear hb6' hsm'

              have t1 := left_any hR5
              have t2 := fun q => rleft_any (hM5.drewN q)
              simp only [unpackB_length] at t2
              generalize 8 * l.length - (8 * ((p + 7) / 8 + nn)) = Z at *
              have t1' := Lib.hid t1; clear t1
              have t2' := Lib.hid t2; clear t2
              go_wp2_with fail
              refine t1'.out.mono ?_
              rintro e w6 ⟨rfl, q, rfl⟩
              go_wp2_with fail
              refine (t2'.out q).mono ?_
              rintro e w7 ⟨rfl, q2, rfl⟩
              have hR7 := (hR5.below (below_drewN (Below.refl _ _) q) (Nat.le_refl _)).below (below_drewN (Below.refl _ _) q2) (Nat.le_refl _)
              have hM7 := (hM5.drewN q).drewN q2
              have hb7 := below_drewN (below_drewN hb5 q) q2
              clear hR5 hM5 hb5 t1' t2'
              rw [World.drewN_drewN] at hR7 hM7 hb7
              go_wp2_with fail
              go_roundw
              case rel => exact ⟨k + 1, (8 * ((p + 7) / 8 + nn)), by omega, by go_num, hR7, hM7, hb7⟩
              case measure => simp [intOf]; omega
            · skip
              have hN : N < 0 ∨ ((l.length - (p + 7) / 8 : Nat) : Int) < N := by omega
              have t1 := Lib.hid (bytes_no hR N hN)
              have t2 := Lib.hid (fun W (hM : Rf W w1.heap.size w1.heap.size v2 high (unpackB high l) p) => rbytes_no hM (by rw [unpackB_length]; omega) N (by rw [unpackB_length, Nat.mul_div_cancel_left _ (by decide)]; exact hN))
              clear hN hy
              go_wp2_with fail
              refine t1.out.mono ?_
              rintro e w3 ⟨rfl, hR3, hg3⟩
              have hM3 := hM.grown hg3 (Ne.symm hne) hv2
              have hb3 := below_grow hb hg3 hb.size (by omega)
              obtain ⟨-, -, g2', -⟩ := hcell.out w3 hb3
              clear hR hM hg3 t1 g0 g2
              go_wp2_with fail
              refine (t2.out _ hM3).mono ?_
              rintro e w5 ⟨rfl, hM5, hg5⟩
              have hR5 := hR3.grown2 hg5 hne hx
              have hb5 := below_grow hb3 hg5 hb3.size (by omega)
              have hsm := same_any none none 0 0 0 0 [] [] w5 (bts_nil _) (bts_nil _)
              rw [decide_eq_true rfl] at hsm
              have hsm' := Lib.hid hsm
              clear hR3 hM3 hg5 t2 g2' hsm
              go_wp2_with fail
              refine hsm'.out.mono ?_
              rintro e w6 ⟨rfl, hb6'⟩
              replace hR5 := hR5.below hb6' (Nat.le_refl _)
              replace hM5 := hM5.below hb6'
              replace hb5 := hb5.trans (hb6'.mono hb5.size)
              clear hb6' hsm'

              have t1 := left_any hR5
              have t2 := fun q => rleft_any (hM5.drewN q)
              simp only [unpackB_length] at t2
              generalize 8 * l.length - ((p + 7) / 8 * 8) = Z at *
              have t1' := Lib.hid t1; clear t1
              have t2' := Lib.hid t2; clear t2
              go_wp2_with fail
              refine t1'.out.mono ?_
              rintro e w6 ⟨rfl, q, rfl⟩
              go_wp2_with fail
              refine (t2'.out q).mono ?_
              rintro e w7 ⟨rfl, q2, rfl⟩
              have hR7 := (hR5.below (below_drewN (Below.refl _ _) q) (Nat.le_refl _)).below (below_drewN (Below.refl _ _) q2) (Nat.le_refl _)
              have hM7 := (hM5.drewN q).drewN q2
              have hb7 := below_drewN (below_drewN hb5 q) q2
              clear hR5 hM5 hb5 t1' t2'
              rw [World.drewN_drewN] at hR7 hM7 hb7
              go_wp2_with fail
              go_roundw
              case rel => exact ⟨k + 1, ((p + 7) / 8 * 8), by omega, by go_num, hR7, hM7, hb7⟩
              case measure => simp [intOf]; omega
    · obtain rfl : k = n := by omega
      go_wp2_with fail
      go_ret
      exact ⟨rfl, hb⟩
end Go.Proofs.Ytdfoimgckahjpaa
