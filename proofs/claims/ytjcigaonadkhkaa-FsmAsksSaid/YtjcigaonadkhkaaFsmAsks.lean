/-
  The walk of FsmAsks.
-/
import Derived.Test.YtjcigaonadkhkaaFsmEnds
namespace Go.Proofs.Ytjcigaonadkhkaa
open Go.RowKit
theorem to_ex {P : Program} {x : Code} {a : Act} {w : World} {Q : Exit → Act → World → Prop} {k : Nat} (h : ∀ G : Act → World → Prop, (∀ a w, Q (.exit k) a w → G a w) → x.wp P (ExP k G) a w) : x.wp P Q a w :=
  wp_mono (h (Q (.exit k)) fun _ _ h => h) (by rintro e a w ⟨rfl, h⟩; exact h)
theorem asks_snoc (l : List Nat) (x : Nat) : asksN (l ++ [x]) = asksN l + (if x = 6 ∨ x = 9 then 1 else 0) := by
  unfold asksN
  rw [List.countP_append]
  by_cases h : x = 6 ∨ x = 9
  · rw [if_pos h]; rcases h with rfl | rfl <;> rfl
  · rw [if_neg h]; simp; omega
set_option maxHeartbeats 1000000 in
theorem asks_in {w : World} {a : Option Addr} {n c : Nat} {l : List Int} (x y : Nat) (hx : x < 256) (hy : y < 256) (hI : Its w a n l) (hn : n ≤ 200) :
    Calls Try.prog 11 #[.int .u8 x, .int .u8 y, .slice a n c] w fun e w' => e = .returned (.bool true) ∧ Below w.heap.size w w' := by
  have r1 : ((x : Int)).tmod 9 = ((x % 9 : Nat) : Int) := rem_nat x 9
  have r2 : ((y : Int)).tmod 5 = ((y % 5 : Nat) : Int) := rem_nat y 5
  obtain ⟨N, n1, n2, eN'⟩ := mod_some x 9 (by decide)
  obtain ⟨T, t1, t2, eT'⟩ := mod_some y 5 (by decide)
  have eN : 1 + (x : Int) % 9 = (N : Int) := eN'
  have eT : 1 + (y : Int) % 5 = (T : Int) := eT'
  clear eN' eT'
  have hPm : (N + 1) * T ≤ 50 := Nat.le_trans (Nat.mul_le_mul (show N + 1 ≤ 10 by omega) t2) (by decide)
  have hok0 : Ok (newM N T) := Ok.new n1 (by omega) t1 (by omega)
  go_enter Try.func11, Try.ntmps11
  go_wp2_with (go_at_call 13; refine (awake_any _).mono ?_; rintro e w0 ⟨rfl, hb0⟩)
  refine (New_yes n1 (by omega) t1 (by omega) _).mono ?_
  rintro e w1 ⟨rfl, hM1, hb1⟩
  have hB := hb0.size
  have hb2 : Below w.heap.size w w1 := hb0.trans (hb1.mono (by omega))
  generalize w0.heap.size = b at *
  clear hb0 hb1
  go_wp2_with fail
  go_loopw [10] (fun i wr => ∃ j : Nat, j ≤ n ∧ i = .int .i64 j ∧ Plays wr b (newM N T) (l.take j) ∧ Below w.heap.size w wr) (fun i _ => n - (intOf i).toNat)
  case atStart => exact ⟨0, by omega, rfl, Plays.start hM1, hb2⟩
  case round =>
    clear hM1 hb2
    obtain ⟨j, hj, rfl, hM1, hb2⟩ := hrel
    have hok := hok0.gos (l.take j)
    by_cases hlt : j < n
    · obtain ⟨bl, o, X, rfl, hbl, g1, hsn⟩ := hI.at_ hb2 hlt
      have hgo := gos_snoc (newM N T) (l.take j) X
      unfold Plays at hM1 ⊢
      rw [← hsn] at hgo
      generalize gosM (newM N T) (l.take j) = m at *
      have hgo' := Lib.hid hgo
      clear hgo hsn
      by_cases hX : X = -2
      · subst hX
        go_wp2_with (go_at_call 21; refine (tick_on hM1 hok hb2 hB).mono ?_; rintro e w2 ⟨p, q, rfl, -, -, hM2, hb3⟩)
        go_roundw
        case rel => exact ⟨j + 1, by omega, by go_num, by rw [hgo'.out]; exact hM2, hb3⟩
        case measure => simp [intOf]; omega
      · have hX' : (X == -2) = false := by simpa using hX
        go_wp2_with (go_at_call 19; refine (do_on hM1 hok X hb2 hB).mono ?_; rintro e w2 ⟨p, q, rfl, -, -, hM2, hb3⟩)
        go_roundw
        case rel => exact ⟨j + 1, by omega, by go_num, by rw [hgo'.out]; unfold goM; rw [if_neg hX]; exact hM2, hb3⟩
        case measure => simp [intOf]; omega
    · obtain rfl : j = n := by omega
      rw [show l.take j = l from List.take_of_length_le (by have := hI.1; omega)] at hM1 hok
      obtain ⟨k1, k2⟩ := kin_gos (newM N T) l
      unfold Plays at hM1
      have hrm := rem_most hok
      have hct := hok.c
      rw [k1, k2] at hrm
      rw [k1] at hct
      have hrm : rem (gosM (newM N T) l) ≤ 50 := Nat.le_trans hrm hPm
      have hct : (gosM (newM N T) l).count ≤ N := hct
      have htr : (gosM (newM N T) l).tries = N := k1
      generalize gosM (newM N T) l = m at *
      clear k1 k2 hPm hI hj hlt
      go_wp2_with fail
      go_loopw [11, 12] (fun s i wr => ∃ (j k : Nat) (m : M), j ≤ 100 ∧ i = .int .i64 j ∧ s = .int .i64 k ∧ Mac wr b m ∧ Ok m ∧ m.tries = N ∧ rem m + j ≤ 50 ∧ k + m.count ≤ N ∧ Below w.heap.size w wr) (fun _ i _ => 100 - (intOf i).toNat)
      case atStart => exact ⟨0, 0, m, by omega, rfl, rfl, hM1, hok, htr, hrm, by omega, hb2⟩
      case round =>
        clear hM1 hok hrm hb2 hct htr
        obtain ⟨i, s, m, hi, rfl, rfl, hM, hok, htr, hr, hs, hb⟩ := hrel
        have hru := Running_any hM
        have hi100 : i < 100 := by omega
        by_cases hz : m.left = 0
        · rw [hz] at hru
          have hsn : s ≤ N := by omega
          go_wp2_with (go_at_call 22; go_must (refine hru.mono ?_; rintro e w2 ⟨rfl, rfl⟩))
          go_ret
          exact ⟨ret_bool (by simp), hb⟩
        · have hl : 0 < m.left := by omega
          have hrt := rem_tick hok hl
          have hrp := rem_pos hl
          have hok2 := hok.tick
          have hask := asks_tick hok
          have htr2 := (kin_tick m).1.trans htr
          have k1 : decide (0 < m.left) = true := by simpa using hl
          rw [k1] at hru
          go_wp2_with (first | (go_at_call 22; go_must (refine hru.mono ?_; rintro e w2 ⟨rfl, rfl⟩)) | (go_at_call 21; go_must (refine (tick_on hM hok hb hB).mono ?_; rintro e w2 ⟨p, q, rfl, hN, -, hM2, hb3⟩)))
          have hrm2 : rem (tickM m) + (i + 1) ≤ 50 := by omega
          have hs2 : s + asksN (tickL m) + (tickM m).count ≤ N := by omega
          clear hr hs hrt hask hru hM hok hb
          generalize tickM m = m' at *
          generalize tickL m = L at *
          have hmx := hN.max
          refine to_ex (k := 4) fun G hG => ?_
          go_loopw [11, 14] (fun v k wr => ∃ j r K : Nat, j ≤ L.length ∧ k = .int .i64 j ∧ v = .int .i64 K ∧ K = s + asksN (L.take j) ∧ wr = w2.drewN r) (fun _ k _ => L.length - (intOf k).toNat)
          case atStart => exact ⟨0, 0, s, by omega, rfl, rfl, rfl, rfl⟩
          case round =>
            obtain ⟨j, r, K, hj, rfl, rfl, hK, rfl⟩ := hrel
            have hle : asksN (L.take j) ≤ asksN L := by unfold asksN; exact List.Sublist.countP_le (List.take_sublist _ _)
            by_cases hjl : j < L.length
            · obtain ⟨bl, rfl, g1⟩ := (hN.drewN r).cell hjl
              have hsn := asks_snoc (L.take j) L[j]
              rw [← List.take_succ_eq_append_getElem hjl] at hsn
              generalize L[j] = X at *
              generalize asksN (L.take j) = S at *
              have hsn' := Lib.hid hsn
              clear hsn
              obtain ⟨W, hW⟩ : ∃ W, w2.drewN r = W := ⟨_, rfl⟩
              rw [hW] at g1 ⊢
              have hW' := Lib.hid hW
              clear hW
              have hKl : K ≤ 9 := by omega
              have hK' := Lib.hid hK
              clear hK
              by_cases h6 : X = 6
              · subst h6
                refine seq_norm fun G1 h1 => ?_
                go_wp2_with fail
                refine ⟨rfl, h1 _ _ ?_⟩
                clear h1
                refine seq_norm fun G1 h1 => ?_
                go_wp2_with fail
                refine ⟨rfl, h1 _ _ ?_⟩
                clear h1
                go_wp2_with fail
                go_roundw
                case rel => exact ⟨j + 1, r, K + 1, by omega, by go_num, by go_num, by rw [hsn'.out, hK'.out]; simp; omega, hW'.out.symm⟩
                case measure => simp [intOf]; omega
              · have k6 : ((X : Int) == 6) = false := by simp; omega
                by_cases h9 : X = 9
                · subst h9
                  refine seq_norm fun G1 h1 => ?_
                  go_wp2_with fail
                  refine ⟨rfl, h1 _ _ ?_⟩
                  clear h1
                  refine seq_norm fun G1 h1 => ?_
                  go_wp2_with fail
                  refine ⟨rfl, h1 _ _ ?_⟩
                  clear h1
                  go_wp2_with fail
                  go_roundw
                  case rel => exact ⟨j + 1, r, K + 1, by omega, by go_num, by go_num, by rw [hsn'.out, hK'.out]; simp; omega, hW'.out.symm⟩
                  case measure => simp [intOf]; omega
                · have k9 : ((X : Int) == 9) = false := by simp; omega
                  refine seq_norm fun G1 h1 => ?_
                  go_wp2_with fail
                  refine ⟨rfl, h1 _ _ ?_⟩
                  clear h1
                  refine seq_norm fun G1 h1 => ?_
                  go_wp2_with fail
                  refine ⟨rfl, h1 _ _ ?_⟩
                  clear h1
                  go_wp2_with fail
                  go_roundw
                  case rel => exact ⟨j + 1, r, K, by omega, by go_num, rfl, by rw [hsn'.out, if_neg (by omega), hK'.out]; simp, hW'.out.symm⟩
                  case measure => simp [intOf]; omega
            · obtain rfl : j = L.length := by omega
              rw [List.take_of_length_le (Nat.le_refl _)] at hK hle
              have hM3 := hM2.below (below_drewN (Below.refl _ _) r) hM2.lt
              have hb4 := below_drewN hb3 r
              have hco := Count_any hM3
              generalize asksN L = S at *
              generalize w2.drewN r = W at *
              have hc1 := hok2.c
              have hc2 : m'.count ≤ N := by omega
              have hs3 : K + m'.count ≤ N := by omega
              clear hN hK hle hs2
              go_wp2_with fail
              refine ⟨rfl, hG _ _ ?_⟩
              clear hG
              go_wp2_with (go_at_call 26; go_must (refine hco.mono ?_; rintro e w4 ⟨rfl, rfl⟩))
              go_roundw
              case rel => exact ⟨i + 1, K, m', by omega, by go_num, rfl, hM3, hok2, htr2, hrm2, hs3, hb4⟩
              case measure => simp [intOf]; omega
theorem play_asks {w : World} {a : Option Addr} {n c : Nat} {zs : List Int} (x y : Int) (hx : (Lit.int .u8 x).wf = true) (hy : (Lit.int .u8 y).wf = true) (hI : IsRow .i64 w a n c zs) :
    Calls Try.prog 11 #[.int .u8 x, .int .u8 y, .slice a n c] w fun e w' => e = .returned (.bool true) ∧ Below w.heap.size w w' := by
  obtain ⟨x, rfl, hx'⟩ := nat_u8 hx
  obtain ⟨y, rfl, hy'⟩ := nat_u8 hy
  by_cases hn : n ≤ 200
  · exact asks_in x y hx' hy' (Its.of_row hI) hn
  · have hm := hI.le
    go_enter Try.func11, Try.ntmps11
    go_wp2_with (go_at_call 13; refine (awake_any _).mono ?_; rintro e w0 ⟨rfl, hb0⟩)
    go_ret
    exact ⟨rfl, hb0⟩
end Go.Proofs.Ytjcigaonadkhkaa
