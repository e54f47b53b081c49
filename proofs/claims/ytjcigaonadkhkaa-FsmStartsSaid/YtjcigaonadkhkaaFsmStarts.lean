/-
  The walk of FsmStarts.
-/
import Derived.Test.YtjcigaonadkhkaaFsmPlays
import Derived.Test.YtjcigaonadkhkaaFsmEnds
namespace Go.Proofs.Ytjcigaonadkhkaa
open Go.RowKit
set_option maxRecDepth 100000 in
set_option maxHeartbeats 4000000 in
theorem starts_in {w : World} {a : Option Addr} {n c : Nat} {l : List Int} (x : Nat) (hx : x < 256) (hI : Its w a n l) (hn : n ≤ 200) :
    Calls Try.prog 12 #[.int .u8 x, .slice a n c] w fun e w' => e = .returned (.bool true) ∧ Below w.heap.size w w' := by
  have r1 : ((x : Int)).tmod 9 = ((x % 9 : Nat) : Int) := rem_nat x 9
  obtain ⟨N, n1, n2, eN'⟩ := mod_some x 9 (by decide)
  have eN : 1 + (x : Int) % 9 = (N : Int) := eN'
  clear eN'
  have hok0 : Ok (newM N 3) := Ok.new n1 (by omega) (by decide) (by decide)
  have hsu := start_up N 3
  have hso := start_open N 3
  obtain ⟨C, hC⟩ : ∃ C, N - 1 = C := ⟨_, rfl⟩
  have eC : (N : Int) - 1 = (C : Int) := by omega
  rw [hC] at hsu hso
  have hC' := Lib.hid hC
  clear hC
  have hsu' := Lib.hid hsu
  have hso' := Lib.hid hso
  clear hsu hso
  go_enter Try.func12, Try.ntmps12
  go_wp2_with (go_at_call 13; refine (awake_any _).mono ?_; rintro e w0 ⟨rfl, hb0⟩)
  refine (New_yes n1 (by omega) (t := 3) (by decide) (by decide) _).mono ?_
  rintro e w1 ⟨rfl, hM1, hb1⟩
  go_wp2_with fail
  refine (New_yes n1 (by omega) (t := 3) (by decide) (by decide) _).mono ?_
  rintro e w2 ⟨rfl, hD1, hb2⟩
  have hB := hb0.size
  have hbd := hM1.lt
  have hM1 := hM1.below hb2 hM1.lt
  have hbw : Below w.heap.size w w2 := (hb0.trans (hb1.mono hB)).trans (hb2.mono (by omega))
  generalize w1.heap.size = d at *
  generalize w0.heap.size = b at *
  have hBd : w.heap.size ≤ d := by omega
  have hdb : d ≠ b := by omega
  clear hb0 hb1 hb2 hbd
  go_wp2_with fail
  refine (do_on hM1 hok0 0 hbw hB).mono ?_
  rintro e w3 ⟨p1, q1, rfl, -, hg1, hM2, hb1⟩
  have hD2 := hD1.grown hg1 hdb
  have hok1 := hok0.do 0
  clear hM1 hD1 hg1 hbw
  go_wp2_with fail
  refine (do_on hM2 hok1 2 hb1 hB).mono ?_
  rintro e w4 ⟨p2, q2, rfl, hN2, hg2, hM3, hb2⟩
  have hD3 := hD2.grown hg2 hdb
  have hokf := hok1.do 2
  have hlt := hD2.lt
  rw [hsu'.out.1] at hM3 hokf
  rw [hsu'.out.2] at hN2 ⊢
  clear hM2 hD2 hg2 hb1 hok1
  go_wp2_with fail
  refine (do_on hD3 hok0 2 hb2 hBd).mono ?_
  rintro e w5 ⟨p3, q3, rfl, -, hg3, hD4, hb3⟩
  have hM4 := hM3.grown hg3 (fun h => hdb h.symm)
  have hN3 := hN2.grown hg3 hlt
  have hok1 := hok0.do 2
  clear hM3 hD3 hg3 hb2 hN2
  go_wp2_with fail
  refine (do_on hD4 hok1 0 hb3 hBd).mono ?_
  rintro e w6 ⟨p4, q4, rfl, hK, hg4, hD5, hb4⟩
  have hM5 := hM4.grown hg4 (fun h => hdb h.symm)
  have hN4 := hN3.grown hg4 hlt
  rw [hso'.out.1] at hD5
  rw [hso'.out.2] at hK ⊢
  clear hM4 hD4 hg4 hb3 hN3 hok1 hok0
  have qI := ints_same hN4 hK rfl
  go_wp2_with (first | (go_at_call 16; go_must (refine qI.mono ?_; rintro e _ ⟨rfl, nn, rfl⟩; have hM6 := hM5.drewN nn; have hD6 := hD5.drewN nn; have hb5 := below_drewN hb4 nn; have qS := State_any hM6; have qS' := State_any hD6; have qC := Count_any hM6)) | (go_at_call_of 20 (some (Addr.mk b 0 none)); refine qS.mono ?_; rintro e _ ⟨rfl, rfl⟩) | (go_at_call_of 20 (some (Addr.mk d 0 none)); refine qS'.mono ?_; rintro e _ ⟨rfl, rfl⟩) | (go_at_call 26; go_must (refine qC.mono ?_; rintro e _ ⟨rfl, rfl⟩)))
  clear qS qS' qC qI hN4 hK hM5 hD5 hb4
  generalize w6.drewN nn = w7 at *
  generalize (⟨N, 3, 6, C, 3⟩ : M) = m0 at *
  go_loopw [12] (fun i wr => ∃ (j : Nat) (m : M), j ≤ n ∧ i = .int .i64 j ∧ Mac wr b m ∧ Mac wr d m ∧ Ok m ∧ Below w.heap.size w wr) (fun i _ => n - (intOf i).toNat)
  case atStart => exact ⟨0, m0, by omega, rfl, hM6, hD6, hokf, hb5⟩
  case round =>
    clear hM6 hD6 hokf hb5
    obtain ⟨j, m, hj, rfl, hM1, hD1, hok, hb⟩ := hrel
    by_cases hlt : j < n
    · obtain ⟨bl, o, X, rfl, hbl, g1, -⟩ := hI.at_ hb hlt
      by_cases hX : X = -2
      · subst hX
        have hok2 := hok.tick
        go_wp2_with fail
        refine (tick_on hM1 hok hb hB).mono ?_
        rintro e w2 ⟨p, q, rfl, hN, hg2, hM2, hb2⟩
        have hD2 := hD1.grown hg2 hdb
        go_wp2_with fail
        refine (tick_on hD2 hok hb2 hBd).mono ?_
        rintro e w3 ⟨p', q', rfl, hK, hg3, hD3, hb3⟩
        have hM3 := hM2.grown hg3 (fun h => hdb h.symm)
        have hN3 := hN.grown hg3 hD1.lt
        clear hM2 hD2 hN hb2 hM1 hD1 hg2 hg3
        generalize tickM m = m' at *
        generalize tickL m = L at *
        have qI := ints_same hN3 hK rfl
        go_wp2_with (first | (go_at_call 16; go_must (refine qI.mono ?_; rintro e _ ⟨rfl, nn, rfl⟩; have hM4 := hM3.drewN nn; have hD4 := hD3.drewN nn; have hb4 := below_drewN hb3 nn; have qS := State_any hM4; have qS' := State_any hD4; have qC := Count_any hM4; have qC' := Count_any hD4; have qR := Running_i hM4; have qR' := Running_i hD4)) | (go_at_call_of 20 (some (Addr.mk b 0 none)); refine qS.mono ?_; rintro e _ ⟨rfl, rfl⟩) | (go_at_call_of 20 (some (Addr.mk d 0 none)); refine qS'.mono ?_; rintro e _ ⟨rfl, rfl⟩) | (go_at_call_of 26 (some (Addr.mk b 0 none)); refine qC.mono ?_; rintro e _ ⟨rfl, rfl⟩) | (go_at_call_of 26 (some (Addr.mk d 0 none)); refine qC'.mono ?_; rintro e _ ⟨rfl, rfl⟩) | (go_at_call_of 22 (some (Addr.mk b 0 none)); refine qR.mono ?_; rintro e _ ⟨rfl, rfl⟩) | (go_at_call_of 22 (some (Addr.mk d 0 none)); refine qR'.mono ?_; rintro e _ ⟨rfl, rfl⟩))
        go_roundw
        case rel => exact ⟨j + 1, m', by omega, by go_num, hM4, hD4, hok2, hb4⟩
        case measure => simp [intOf]; omega
      · have hX' : (X == -2) = false := by simpa using hX
        have hok2 := hok.do X
        have hMd := hM1.below (Below.refl wr.heap.size wr).drew hM1.lt
        have hDd := hD1.below (Below.refl wr.heap.size wr).drew hD1.lt
        have hbd := hb.drew
        have hdl := hDd.lt
        have hc1 := do_on hMd hok X hbd hB
        have hI' := Lib.hid hI
        clear hI hM1 hD1
        generalize hm' : doM m X = m' at *
        generalize hL : doL m X = L at *
        have hm2 := Lib.hid hm'
        have hL2 := Lib.hid hL
        clear hm' hL
        go_wp2_with fail
        go_region_with (first | (go_at_call_of 19 (some (Addr.mk b 0 none)); refine hc1.mono ?_; rintro e w2 ⟨p, q, rfl, hN, hg2, hM2, hb2⟩; have hD2 := hDd.grown hg2 hdb; have g2 := hg2.cell (show wr.drew.cell? ⟨bl, o + j, none⟩ = some (.int .i64 X) from g1) (by simp; omega); have hc2 := do_on hD2 hok X hb2 hBd; rw [hm2.out, hL2.out] at hc2) | (go_at_call_of 19 (some (Addr.mk d 0 none)); refine hc2.mono ?_; rintro e w3 ⟨p', q', rfl, hK, hg3, hD3, hb3⟩; have hM3 := hM2.grown hg3 (fun h => hdb h.symm); have hN3 := hN.grown hg3 hdl; clear hM2 hD2 hN hb2 hMd hDd hg2 hg3))
        all_goals clear hc2
        all_goals have qI := ints_same hN3 hK rfl
        all_goals go_wp2_with (first | (go_at_call 16; go_must (refine qI.mono ?_; rintro e _ ⟨rfl, nn, rfl⟩; have hM4 := hM3.drewN nn; have hD4 := hD3.drewN nn; have hb4 := below_drewN hb3 nn; have qS := State_any hM4; have qS' := State_any hD4; have qC := Count_any hM4; have qC' := Count_any hD4; have qR := Running_i hM4; have qR' := Running_i hD4)) | (go_at_call_of 20 (some (Addr.mk b 0 none)); refine qS.mono ?_; rintro e _ ⟨rfl, rfl⟩) | (go_at_call_of 20 (some (Addr.mk d 0 none)); refine qS'.mono ?_; rintro e _ ⟨rfl, rfl⟩) | (go_at_call_of 26 (some (Addr.mk b 0 none)); refine qC.mono ?_; rintro e _ ⟨rfl, rfl⟩) | (go_at_call_of 26 (some (Addr.mk d 0 none)); refine qC'.mono ?_; rintro e _ ⟨rfl, rfl⟩) | (go_at_call_of 22 (some (Addr.mk b 0 none)); refine qR.mono ?_; rintro e _ ⟨rfl, rfl⟩) | (go_at_call_of 22 (some (Addr.mk d 0 none)); refine qR'.mono ?_; rintro e _ ⟨rfl, rfl⟩))
        all_goals go_roundw
        all_goals first | (exact ⟨j + 1, m', by omega, by go_num, hM4, hD4, hok2, hb4⟩) | (simp [intOf]; omega)
    · obtain rfl : j = n := by omega
      go_wp2_with fail
      go_ret
      exact ⟨rfl, hb⟩
theorem play_starts {w : World} {a : Option Addr} {n c : Nat} {zs : List Int} (x : Int) (hx : (Lit.int .u8 x).wf = true) (hI : IsRow .i64 w a n c zs) :
    Calls Try.prog 12 #[.int .u8 x, .slice a n c] w fun e w' => e = .returned (.bool true) ∧ Below w.heap.size w w' := by
  obtain ⟨x, rfl, hx'⟩ := nat_u8 hx
  by_cases hn : n ≤ 200
  · exact starts_in x hx' (Its.of_row hI) hn
  · have hm := hI.le
    go_enter Try.func12, Try.ntmps12
    go_wp2_with (go_at_call 13; refine (awake_any _).mono ?_; rintro e w0 ⟨rfl, hb0⟩)
    go_ret
    exact ⟨rfl, hb0⟩
end Go.Proofs.Ytjcigaonadkhkaa
