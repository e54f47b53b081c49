/-
  The walk of FsmEnds.
-/
import Derived.Test.YtjcigaonadkhkaaFsmIts
namespace Go.Proofs.Ytjcigaonadkhkaa
open Go.RowKit
theorem rem_nat (a k : Nat) : ((a : Int)).tmod (k : Int) = ((a % k : Nat) : Int) := by rw [Int.tmod_eq_emod_of_nonneg (by omega)]; omega
theorem mod_some (x : Nat) (k : Nat) (hk : 0 < k) : ∃ N : Nat, 1 ≤ N ∧ N ≤ k ∧ 1 + (x : Int) % (k : Int) = (N : Int) := ⟨1 + x % k, by omega, by have := Nat.mod_lt x hk; omega, by omega⟩
set_option maxHeartbeats 1000000 in
theorem ends_in {w : World} {a : Option Addr} {n c : Nat} {l : List Int} (x y : Nat) (hx : x < 256) (hy : y < 256) (hI : Its w a n l) (hn : n ≤ 300) :
    Calls Try.prog 8 #[.int .u8 x, .int .u8 y, .slice a n c] w fun e w' => e = .returned (.bool true) ∧ Below w.heap.size w w' := by
  have r1 : ((x : Int)).tmod 12 = ((x % 12 : Nat) : Int) := rem_nat x 12
  have r2 : ((y : Int)).tmod 12 = ((y % 12 : Nat) : Int) := rem_nat y 12
  obtain ⟨N, n1, n2, eN'⟩ := mod_some x 12 (by decide)
  obtain ⟨T, t1, t2, eT'⟩ := mod_some y 12 (by decide)
  have eN : 1 + (x : Int) % 12 = (N : Int) := eN'
  have eT : 1 + (y : Int) % 12 = (T : Int) := eT'
  clear eN' eT'
  obtain ⟨P, hP⟩ : ∃ P : Nat, P = (N + 2) * T := ⟨_, rfl⟩
  have eP : ((N : Int) + 2) * (T : Int) = (P : Int) := by rw [hP]; simp
  have hPl : P ≤ 14 * 12 := by rw [hP]; exact Nat.mul_le_mul (by omega) t2
  have hPm : (N + 1) * T ≤ P := by rw [hP]; exact Nat.mul_le_mul_right _ (by omega)
  have hok0 : Ok (newM N T) := Ok.new n1 (by omega) t1 (by omega)
  clear hP
  go_enter Try.func8, Try.ntmps8
  go_wp2_with (go_at_call 13; refine (awake_any _).mono ?_; rintro e w0 ⟨rfl, hb0⟩)
  refine (New_yes n1 (by omega) t1 (by omega) _).mono ?_
  rintro e w1 ⟨rfl, hM1, hb1⟩
  have hB := hb0.size
  have hb2 : Below w.heap.size w w1 := hb0.trans (hb1.mono (by omega))
  generalize w0.heap.size = b at *
  clear hb0 hb1
  go_wp2_with fail
  go_loopw [11] (fun i wr => ∃ j : Nat, j ≤ n ∧ i = .int .i64 j ∧ Plays wr b (newM N T) (l.take j) ∧ Below w.heap.size w wr) (fun i _ => n - (intOf i).toNat)
  case atStart => exact ⟨0, by omega, rfl, Plays.start hM1, hb2⟩
  case round =>
    clear hM1 hb2
    obtain ⟨j, hj, rfl, hM1, hb2⟩ := hrel
    have hok := hok0.gos (l.take j)
    by_cases hlt : j < n
    · obtain ⟨bl, o, X, rfl, hbl, g1, hsn⟩ := hI.at_ hb2 hlt
      have hgo := gos_snoc (newM N T) (l.take j) X
      unfold Plays at hM1 ⊢
      rw [← hsn] at hgo
      generalize gosM (newM N T) (l.take j) = m at *
      have hgo' := Lib.hid hgo
      clear hgo hsn
      by_cases hX : X = -2
      · subst hX
        go_wp2_with (go_at_call 21; refine (tick_on hM1 hok hb2 hB).mono ?_; rintro e w2 ⟨p, q, rfl, -, -, hM2, hb3⟩)
        go_roundw
        case rel => exact ⟨j + 1, by omega, by go_num, by rw [hgo'.out]; exact hM2, hb3⟩
        case measure => simp [intOf]; omega
      · have hX' : (X == -2) = false := by simpa using hX
        go_wp2_with (go_at_call 19; refine (do_on hM1 hok X hb2 hB).mono ?_; rintro e w2 ⟨p, q, rfl, -, -, hM2, hb3⟩)
        go_roundw
        case rel => exact ⟨j + 1, by omega, by go_num, by rw [hgo'.out]; unfold goM; rw [if_neg hX]; exact hM2, hb3⟩
        case measure => simp [intOf]; omega
    · obtain rfl : j = n := by omega
      rw [show l.take j = l from List.take_of_length_le (by have := hI.1; omega)] at hM1 hok
      obtain ⟨k1, k2⟩ := kin_gos (newM N T) l
      have hrm := rem_most hok
      rw [k1, k2] at hrm
      have hrm : rem (gosM (newM N T) l) ≤ P := Nat.le_trans hrm hPm
      unfold Plays at hM1
      generalize gosM (newM N T) l = m at *
      clear k1 k2 hPm hI hj hlt
      go_wp2_with fail
      go_loopw [12] (fun i wr => ∃ (j : Nat) (m : M), j ≤ P ∧ i = .int .i64 j ∧ Mac wr b m ∧ Ok m ∧ rem m + j ≤ P ∧ Below w.heap.size w wr) (fun i _ => P - (intOf i).toNat)
      case atStart => exact ⟨0, m, by omega, rfl, hM1, hok, hrm, hb2⟩
      case round =>
        clear hM1 hok hrm hb2
        obtain ⟨i, m, hi, rfl, hM, hok, hr, hb⟩ := hrel
        have hru := Running_any hM
        by_cases hz : m.left = 0
        · have hst := State_any hM
          have htk := tick_on hM hok hb hB
          have hs := still hok hz
          rw [(tick_none hz).1, (tick_none hz).2] at htk
          rw [hz] at hru
          rcases hs with hs | hs
          · have k1 : (m.state : Int) ≤ 3 := by omega
            by_cases hiP : i < P
            · go_wp2_with (first | (go_at_call 20; go_must (refine (State_any (m := m) (by assumption)).mono ?_; rintro e _ ⟨rfl, rfl⟩)) | (go_at_call 22; go_must (refine hru.mono ?_; rintro e w2 ⟨rfl, rfl⟩)) | (go_at_call 21; go_must (refine htk.mono ?_; rintro e w2 ⟨p, q, rfl, -, -, hM2, hb3⟩)))
              go_ret
              exact ⟨ret_bool (by simp), hb3⟩
            · go_wp2_with (first | (go_at_call 20; go_must (refine (State_any (m := m) (by assumption)).mono ?_; rintro e _ ⟨rfl, rfl⟩)) | (go_at_call 22; go_must (refine hru.mono ?_; rintro e w2 ⟨rfl, rfl⟩)) | (go_at_call 21; go_must (refine htk.mono ?_; rintro e w2 ⟨p, q, rfl, -, -, hM2, hb3⟩)))
              go_ret
              exact ⟨ret_bool (by simp), hb3⟩
          · have k1 : ¬ (m.state : Int) ≤ 3 := by omega
            have k2 : ((m.state : Int) == 9) = true := by simp; omega
            by_cases hiP : i < P
            · go_wp2_with (first | (go_at_call 20; go_must (refine (State_any (m := m) (by assumption)).mono ?_; rintro e _ ⟨rfl, rfl⟩)) | (go_at_call 22; go_must (refine hru.mono ?_; rintro e w2 ⟨rfl, rfl⟩)) | (go_at_call 21; go_must (refine htk.mono ?_; rintro e w2 ⟨p, q, rfl, -, -, hM2, hb3⟩)))
              go_ret
              exact ⟨ret_bool (by simp), hb3⟩
            · go_wp2_with (first | (go_at_call 20; go_must (refine (State_any (m := m) (by assumption)).mono ?_; rintro e _ ⟨rfl, rfl⟩)) | (go_at_call 22; go_must (refine hru.mono ?_; rintro e w2 ⟨rfl, rfl⟩)) | (go_at_call 21; go_must (refine htk.mono ?_; rintro e w2 ⟨p, q, rfl, -, -, hM2, hb3⟩)))
              go_ret
              exact ⟨ret_bool (by simp), hb3⟩
        · have hl : 0 < m.left := by omega
          have hrt := rem_tick hok hl
          have hrp := rem_pos hl
          have hok2 := hok.tick
          have k1 : decide (0 < m.left) = true := by simpa using hl
          rw [k1] at hru
          go_wp2_with (first | (go_at_call 22; go_must (refine hru.mono ?_; rintro e w2 ⟨rfl, rfl⟩)) | (go_at_call 21; go_must (refine (tick_on hM hok hb hB).mono ?_; rintro e w2 ⟨p, q, rfl, -, -, hM2, hb3⟩)))
          go_roundw
          case rel => exact ⟨i + 1, tickM m, by omega, by go_num, hM2, hok2, by omega, hb3⟩
          case measure => simp [intOf]; omega
theorem play_ends {w : World} {a : Option Addr} {n c : Nat} {zs : List Int} (x y : Int) (hx : (Lit.int .u8 x).wf = true) (hy : (Lit.int .u8 y).wf = true) (hI : IsRow .i64 w a n c zs) :
    Calls Try.prog 8 #[.int .u8 x, .int .u8 y, .slice a n c] w fun e w' => e = .returned (.bool true) ∧ Below w.heap.size w w' := by
  obtain ⟨x, rfl, hx'⟩ := nat_u8 hx
  obtain ⟨y, rfl, hy'⟩ := nat_u8 hy
  by_cases hn : n ≤ 300
  · exact ends_in x y hx' hy' (Its.of_row hI) hn
  · have hm := hI.le
    go_enter Try.func8, Try.ntmps8
    go_wp2_with (go_at_call 13; refine (awake_any _).mono ?_; rintro e w0 ⟨rfl, hb0⟩)
    go_ret
    exact ⟨rfl, hb0⟩
end Go.Proofs.Ytjcigaonadkhkaa
