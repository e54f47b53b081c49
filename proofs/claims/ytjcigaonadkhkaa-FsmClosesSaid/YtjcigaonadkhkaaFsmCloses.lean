/-
  The walk of FsmCloses.
-/
import Derived.Test.YtjcigaonadkhkaaFsmEnds
namespace Go.Proofs.Ytjcigaonadkhkaa
open Go.RowKit
set_option maxHeartbeats 1000000 in
theorem closes_in {w : World} {a : Option Addr} {n c : Nat} {l : List Int} (x : Nat) (_hx : x < 256) (hI : Its w a n l) (hn : n ≤ 200) :
    Calls Try.prog 9 #[.slice a n c, .int .u8 x] w fun e w' => e = .returned (.bool true) ∧ Below w.heap.size w w' := by
  have r1 : ((x : Int)).tmod 3 = ((x % 3 : Nat) : Int) := rem_nat x 3
  have hok0 : Ok (newM 3 2) := Ok.new (by decide) (by decide) (by decide) (by decide)
  have h3 : x % 3 = 0 ∨ x % 3 = 1 ∨ x % 3 = 2 := by omega
  go_enter Try.func9, Try.ntmps9
  go_wp2_with (go_at_call 13; refine (awake_any _).mono ?_; rintro e w0 ⟨rfl, hb0⟩)
  refine (New_yes (n := 3) (t := 2) (by decide) (by decide) (by decide) (by decide) _).mono ?_
  rintro e w1 ⟨rfl, hM1, hb1⟩
  have hB := hb0.size
  have hb2 : Below w.heap.size w w1 := hb0.trans (hb1.mono (by omega))
  generalize w0.heap.size = b at *
  clear hb0 hb1
  go_wp2_with fail
  go_loopw [7] (fun i wr => ∃ j : Nat, j ≤ n ∧ i = .int .i64 j ∧ Plays wr b (newM 3 2) (l.take j) ∧ Below w.heap.size w wr) (fun i _ => n - (intOf i).toNat)
  case atStart => exact ⟨0, by omega, rfl, Plays.start hM1, hb2⟩
  case round =>
    clear hM1 hb2
    obtain ⟨j, hj, rfl, hM1, hb2⟩ := hrel
    have hok := hok0.gos (l.take j)
    by_cases hlt : j < n
    · obtain ⟨bl, o, X, rfl, hbl, g1, hsn⟩ := hI.at_ hb2 hlt
      have hgo := gos_snoc (newM 3 2) (l.take j) X
      unfold Plays at hM1 ⊢
      rw [← hsn] at hgo
      generalize gosM (newM 3 2) (l.take j) = m at *
      have hgo' := Lib.hid hgo
      clear hgo hsn
      by_cases hX : X = -2
      · subst hX
        go_wp2_with (go_at_call 21; refine (tick_on hM1 hok hb2 hB).mono ?_; rintro e w2 ⟨p, q, rfl, -, -, hM2, hb3⟩)
        go_roundw
        case rel => exact ⟨j + 1, by omega, by go_num, by rw [hgo'.out]; exact hM2, hb3⟩
        case measure => simp [intOf]; omega
      · have hX' : (X == -2) = false := by simpa using hX
        go_wp2_with (go_at_call 19; refine (do_on hM1 hok X hb2 hB).mono ?_; rintro e w2 ⟨p, q, rfl, -, -, hM2, hb3⟩)
        go_roundw
        case rel => exact ⟨j + 1, by omega, by go_num, by rw [hgo'.out]; unfold goM; rw [if_neg hX]; exact hM2, hb3⟩
        case measure => simp [intOf]; omega
    · obtain rfl : j = n := by omega
      rw [show l.take j = l from List.take_of_length_le (by have := hI.1; omega)] at hM1 hok
      obtain ⟨k1, k2⟩ := kin_gos (newM 3 2) l
      unfold Plays at hM1
      clear hI hj hlt
      have hq := rem_most hok
      rw [k1, k2] at hq
      have hto : (gosM (newM 3 2) l).timeout = 2 := k2
      have htr : (gosM (newM 3 2) l).tries = 3 := k1
      clear k1 k2
      generalize gosM (newM 3 2) l = m at *
      clear hok0
      rcases h3 with h3 | h3 | h3
      · have e3 : (x : Int) % 3 = 0 := by omega
        have hcd := close_down hok
        have hk2 := hok.do 3
        have hM2 := hM1
        clear hM1
        have hb2' := hb2
        clear hb2
        have hb2 := hb2'
        clear hb2'
        go_wp2_with fail
        refine (do_on hM2 hok 3 hb2 hB).mono ?_
        rintro e w3 ⟨p2, q2, rfl, -, -, hM3, hb3⟩
        clear hM2 hb2
        go_wp2_with fail
        refine (do_on hM3 hk2 1 hb3 hB).mono ?_
        rintro e w4 ⟨p3, q3, rfl, -, -, hM4, hb4⟩
        clear hM3 hb3
        have hst := State_any hM4
        have hru := Running_any hM4
        rw [hcd.1] at hst
        rw [hcd.2] at hru
        go_wp2_with (first | (go_at_call 20; go_must (refine hst.mono ?_; rintro e _ ⟨rfl, rfl⟩)) | (go_at_call 22; go_must (refine hru.mono ?_; rintro e _ ⟨rfl, rfl⟩)))
        go_ret
        exact ⟨ret_bool (by simp), hb4⟩
      · have e3 : (x : Int) % 3 = 1 := by omega
        have hca := close_alone hok
        have hkk := kin_do m 3
        have hk2 := hok.do 3
        have hq2 := rem_most hk2
        rw [hkk.1, hkk.2, htr, hto] at hq2
        have hM2 := hM1
        clear hM1
        go_wp2_with fail
        refine (do_on hM2 hok 3 hb2 hB).mono ?_
        rintro e w3 ⟨p2, q2, rfl, -, -, hM3, hb3⟩
        clear hM2 hb2
        have hst := State_any hM3
        have hcl : Closes 0 (doM m 3) := by unfold Closes; omega
        generalize doM m 3 = m' at *
        clear hq hq2 hkk hok htr hto
        obtain ⟨s0, hs0⟩ : ∃ s0, m'.state = s0 := ⟨_, rfl⟩
        rw [hs0] at hst hca
        clear hs0
        go_wp2_with (go_at_call 20; go_must (refine hst.mono ?_; rintro e _ ⟨rfl, rfl⟩))
        go_loopw [9] (fun i wr => ∃ (j : Nat) (m : M), j ≤ 12 ∧ i = .int .i64 j ∧ Mac wr b m ∧ Ok m ∧ Closes j m ∧ Below w.heap.size w wr) (fun i _ => 12 - (intOf i).toNat)
        case atStart => exact ⟨0, m', by omega, rfl, hM3, hk2, hcl, hb3⟩
        case round =>
          clear hM3 hst hk2 hcl hb3
          obtain ⟨i, m, hi, rfl, hM3, hok, hcl, hb3⟩ := hrel
          by_cases hi12 : i < 12
          · have hok2 := hok.tick
            have hcl2 := closes_tick hok hcl
            go_wp2_with (go_at_call 21; go_must (refine (tick_on hM3 hok hb3 hB).mono ?_; rintro e w4 ⟨p, q, rfl, -, -, hM4, hb4⟩))
            go_roundw
            case rel => exact ⟨i + 1, tickM m, by omega, by go_num, hM4, hok2, hcl2, hb4⟩
            case measure => simp [intOf]; omega
          · obtain rfl : i = 12 := by omega
            have hst := State_any hM3
            rcases closes_end hcl with he | he
            · rw [he] at hst
              rcases hca with rfl | rfl | rfl
              · go_wp2_with (go_at_call 20; go_must (refine hst.mono ?_; rintro e _ ⟨rfl, rfl⟩))
                go_ret
                exact ⟨ret_bool (by simp), hb3⟩
              · go_wp2_with (go_at_call 20; go_must (refine hst.mono ?_; rintro e _ ⟨rfl, rfl⟩))
                go_ret
                exact ⟨ret_bool (by simp), hb3⟩
              · go_wp2_with (go_at_call 20; go_must (refine hst.mono ?_; rintro e _ ⟨rfl, rfl⟩))
                go_ret
                exact ⟨ret_bool (by simp), hb3⟩
            · rw [he] at hst
              rcases hca with rfl | rfl | rfl
              · go_wp2_with (go_at_call 20; go_must (refine hst.mono ?_; rintro e _ ⟨rfl, rfl⟩))
                go_ret
                exact ⟨ret_bool (by simp), hb3⟩
              · go_wp2_with (go_at_call 20; go_must (refine hst.mono ?_; rintro e _ ⟨rfl, rfl⟩))
                go_ret
                exact ⟨ret_bool (by simp), hb3⟩
              · go_wp2_with (go_at_call 20; go_must (refine hst.mono ?_; rintro e _ ⟨rfl, rfl⟩))
                go_ret
                exact ⟨ret_bool (by simp), hb3⟩
      · have e3 : (x : Int) % 3 = 2 := by omega
        have hda := down_alone hok
        have hM2 := hM1
        clear hM1
        go_wp2_with fail
        refine (do_on hM2 hok 1 hb2 hB).mono ?_
        rintro e w3 ⟨p2, q2, rfl, -, -, hM3, hb3⟩
        clear hM2 hb2
        have hst := State_any hM3
        rcases hda with he | he
        · rw [he] at hst
          go_wp2_with (go_at_call 20; go_must (refine hst.mono ?_; rintro e _ ⟨rfl, rfl⟩))
          go_ret
          exact ⟨ret_bool (by simp), hb3⟩
        · rw [he] at hst
          go_wp2_with (go_at_call 20; go_must (refine hst.mono ?_; rintro e _ ⟨rfl, rfl⟩))
          go_ret
          exact ⟨ret_bool (by simp), hb3⟩
theorem play_closes {w : World} {a : Option Addr} {n c : Nat} {zs : List Int} (x : Int) (hI : IsRow .i64 w a n c zs) (hx : (Lit.int .u8 x).wf = true) :
    Calls Try.prog 9 #[.slice a n c, .int .u8 x] w fun e w' => e = .returned (.bool true) ∧ Below w.heap.size w w' := by
  obtain ⟨x, rfl, hx'⟩ := nat_u8 hx
  by_cases hn : n ≤ 200
  · exact closes_in x hx' (Its.of_row hI) hn
  · have hm := hI.le
    go_enter Try.func9, Try.ntmps9
    go_wp2_with (go_at_call 13; refine (awake_any _).mono ?_; rintro e w0 ⟨rfl, hb0⟩)
    go_ret
    exact ⟨rfl, hb0⟩
end Go.Proofs.Ytjcigaonadkhkaa
