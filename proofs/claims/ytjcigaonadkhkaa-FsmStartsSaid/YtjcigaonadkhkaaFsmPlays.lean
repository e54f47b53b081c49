/-
  The walk of FsmPlays.
-/
import Derived.Test.YtjcigaonadkhkaaFsmIts
namespace Go.Proofs.Ytjcigaonadkhkaa
open Go.RowKit
theorem Mac.drewN {w : World} {b : Nat} {m : M} (h : Mac w b m) (n : Nat) : Mac (w.drewN n) b m := h.below (below_drewN (Below.refl w.heap.size w) n) h.lt
theorem RMac.drewN {w : World} {b : Nat} {m : M} (h : RMac w b m) (n : Nat) : RMac (w.drewN n) b m := h.below (below_drewN (Below.refl w.heap.size w) n) h.lt
theorem Running_i {w : World} {b : Nat} {m : M} (hM : Mac w b m) :
    Calls Try.prog 22 #[.pointer (some ⟨b, 0, none⟩)] w fun e w' => e = .returned (.bool (decide ((0 : Int) < (m.left : Int)))) ∧ w' = w := by
  refine (Running_any hM).mono ?_
  rintro e w' ⟨rfl, rfl⟩
  exact ⟨ret_bool (by simp), rfl⟩
set_option maxRecDepth 100000 in
set_option maxHeartbeats 4000000 in
theorem plays_in {w : World} {a : Option Addr} {n c : Nat} {l : List Int} (N T : Nat) (n1 : 1 ≤ N) (n2 : N ≤ 1000) (t1 : 1 ≤ T) (t2 : T ≤ 1000) (hI : Its w a n l) (hn : n ≤ 300) :
    Calls Try.prog 7 #[.int .i64 N, .int .i64 T, .slice a n c] w fun e w' => e = .returned (.bool true) ∧ Below w.heap.size w w' := by
  have hok0 : Ok (newM N T) := Ok.new n1 n2 t1 t2
  go_enter Try.func7, Try.ntmps7
  go_wp2_with (go_at_call 13; refine (awake_any _).mono ?_; rintro e w0 ⟨rfl, hb0⟩)
  go_wp2_with fail
  refine (New_yes n1 n2 t1 t2 _).mono ?_
  rintro e w1 ⟨rfl, hM1, hb1⟩
  go_wp2_with fail
  refine (RNew_yes n1 n2 t1 t2 _).mono ?_
  rintro e w2 ⟨rfl, hR1, hb2⟩
  have hB := hb0.size
  have hbd := hM1.lt
  have hM1 := hM1.below hb2 hM1.lt
  have hbw : Below w.heap.size w w2 := (hb0.trans (hb1.mono hB)).trans (hb2.mono (by omega))
  generalize w1.heap.size = d at *
  generalize w0.heap.size = b at *
  have hBd : w.heap.size ≤ d := by omega
  have hdb : d ≠ b := by omega
  clear hb0 hb1 hb2 hbd n1 n2 t1 t2
  go_wp2_with fail
  go_loopw [11] (fun i wr => ∃ (j : Nat) (m : M), j ≤ n ∧ i = .int .i64 j ∧ Mac wr b m ∧ RMac wr d m ∧ Ok m ∧ Below w.heap.size w wr) (fun i _ => n - (intOf i).toNat)
  case atStart => exact ⟨0, newM N T, by omega, rfl, hM1, hR1, hok0, hbw⟩
  case round =>
    clear hM1 hR1 hok0 hbw
    obtain ⟨j, m, hj, rfl, hM1, hR1, hok, hb⟩ := hrel
    by_cases hlt : j < n
    · obtain ⟨bl, o, X, rfl, hbl, g1, -⟩ := hI.at_ hb hlt
      by_cases hX : X = -2
      · subst hX
        have hok2 := hok.tick
        go_wp2_with (go_at_call 21; refine (tick_on hM1 hok hb hB).mono ?_; rintro e w2 ⟨p, q, rfl, hN, hg2, hM2, hb2⟩)
        have hR2 := hR1.grown hg2 hdb
        refine (RTick_any hR2 hok).mono ?_
        rintro e w3 ⟨⟨a2, c2, rfl, hK, hg3⟩, hR3⟩
        have hM3 := hM2.grown hg3 (fun h => hdb h.symm)
        have hN3 := hN.grown hg3 hR1.lt
        have hb3 := below_grow hb2 hg3 hb2.size hBd
        clear hM2 hR2 hN hb2 hM1 hR1 hg2 hg3
        generalize tickM m = m' at *
        generalize tickL m = L at *
        have c0 := hR3.cell 0
        have c1 := hR3.cell 1
        have c2' := hR3.cell 2
        simp only [rCells, iv, List.getElem?_toArray, List.getElem?_cons_zero, List.getElem?_cons_succ] at c0 c1 c2'
        have qI := fun n => ints_same (hN3.drewN n) (hK.drewN n) rfl
        have qS := fun n => State_any (hM3.drewN n)
        have qC := fun n => Count_any (hM3.drewN n)
        have qR := fun n => Running_i (hM3.drewN n)
        go_wp2_with fail
        go_quiet (first | (go_at_call 16; exact Calls.quiet_of (qI _)) | (go_at_call 20; exact Calls.quiet_of_same (qS _)) | (go_at_call 26; exact Calls.quiet_of_same (qC _)) | (go_at_call 22; exact Calls.quiet_of_same (qR _)))
        clear qI qS qC qR
        go_wp2_with fail
        have hM4 := hM3.drewN nq
        have hR4 := hR3.drewN nq
        have hb4 := below_drewN hb3 nq
        go_roundw
        case rel => exact ⟨j + 1, m', by omega, by go_num, hM4, hR4, hok2, hb4⟩
        case measure => simp [intOf]; omega
      · have hX' : (X == -2) = false := by simpa using hX
        have hok2 := hok.do X
        go_wp2_with (go_at_call 19; refine (do_on hM1 hok X hb hB).mono ?_; rintro e w2 ⟨p, q, rfl, hN, hg2, hM2, hb2⟩; have g2 := (hg2.cell g1 (by simp; omega)))
        have hR2 := hR1.grown hg2 hdb
        refine (RDo_any hR2 hok X).mono ?_
        rintro e w3 ⟨⟨a2, c2, rfl, hK, hg3⟩, hR3⟩
        have hM3 := hM2.grown hg3 (fun h => hdb h.symm)
        have hN3 := hN.grown hg3 hR1.lt
        have hb3 := below_grow hb2 hg3 hb2.size hBd
        clear hM2 hR2 hN hb2 hM1 hR1 hg2 hg3
        generalize doM m X = m' at *
        generalize doL m X = L at *
        have c0 := hR3.cell 0
        have c1 := hR3.cell 1
        have c2' := hR3.cell 2
        simp only [rCells, iv, List.getElem?_toArray, List.getElem?_cons_zero, List.getElem?_cons_succ] at c0 c1 c2'
        have qI := fun n => ints_same (hN3.drewN n) (hK.drewN n) rfl
        have qS := fun n => State_any (hM3.drewN n)
        have qC := fun n => Count_any (hM3.drewN n)
        have qR := fun n => Running_i (hM3.drewN n)
        go_wp2_with fail
        go_quiet (first | (go_at_call 16; exact Calls.quiet_of (qI _)) | (go_at_call 20; exact Calls.quiet_of_same (qS _)) | (go_at_call 26; exact Calls.quiet_of_same (qC _)) | (go_at_call 22; exact Calls.quiet_of_same (qR _)))
        clear qI qS qC qR
        go_wp2_with fail
        have hM4 := hM3.drewN nq
        have hR4 := hR3.drewN nq
        have hb4 := below_drewN hb3 nq
        go_roundw
        case rel => exact ⟨j + 1, m', by omega, by go_num, hM4, hR4, hok2, hb4⟩
        case measure => simp [intOf]; omega
    · obtain rfl : j = n := by omega
      go_wp2_with fail
      go_ret
      exact ⟨rfl, hb⟩
theorem play_plays {w : World} {a : Option Addr} {n c : Nat} {zs : List Int} (x y : Int) (hI : IsRow .i64 w a n c zs) :
    Calls Try.prog 7 #[.int .i64 x, .int .i64 y, .slice a n c] w fun e w' => e = .returned (.bool true) ∧ Below w.heap.size w w' := by
  by_cases hn : n ≤ 300
  · by_cases h : 1 ≤ x ∧ x ≤ 1000 ∧ 1 ≤ y ∧ y ≤ 1000
    · obtain ⟨N, rfl⟩ := Int.eq_ofNat_of_zero_le (show 0 ≤ x by omega)
      obtain ⟨T, rfl⟩ := Int.eq_ofNat_of_zero_le (show 0 ≤ y by omega)
      exact plays_in N T (by omega) (by omega) (by omega) (by omega) (Its.of_row hI) hn
    · have h1 := fun W => New_no h W
      have h2 := fun W => RNew_no h W
      clear h
      go_enter Try.func7, Try.ntmps7
      go_wp2_with (go_at_call 13; refine (awake_any _).mono ?_; rintro e w0 ⟨rfl, hb0⟩)
      go_wp2_with fail
      refine (h1 _).mono ?_
      rintro e w1 ⟨rfl, rfl⟩
      go_wp2_with fail
      refine (h2 _).mono ?_
      rintro e w1 ⟨rfl, rfl⟩
      go_wp2_with fail
      go_ret
      exact ⟨rfl, hb0⟩
  · have hm := hI.le
    go_enter Try.func7, Try.ntmps7
    go_wp2_with (go_at_call 13; refine (awake_any _).mono ?_; rintro e w0 ⟨rfl, hb0⟩)
    go_ret
    exact ⟨rfl, hb0⟩
end Go.Proofs.Ytjcigaonadkhkaa
