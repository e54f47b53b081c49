/-
  The walk of FsmLayers.
-/
import Derived.Test.YtjcigaonadkhkaaFsmEnds
namespace Go.Proofs.Ytjcigaonadkhkaa
open Go.RowKit
set_option maxRecDepth 100000 in
set_option maxHeartbeats 4000000 in
theorem layers_in {w : World} {a : Option Addr} {n c : Nat} {l : List Int} (hI : Its w a n l) (hn : n ≤ 300) :
    Calls Try.prog 10 #[.slice a n c] w fun e w' => e = .returned (.bool true) ∧ Below w.heap.size w w' := by
  have hok0 : Ok (newM 3 2) := Ok.new (by decide) (by decide) (by decide) (by decide)
  go_enter Try.func10, Try.ntmps10
  go_wp2_with (go_at_call 13; refine (awake_any _).mono ?_; rintro e w0 ⟨rfl, hb0⟩)
  refine (New_yes (n := 3) (t := 2) (by decide) (by decide) (by decide) (by decide) _).mono ?_
  rintro e w1 ⟨rfl, hM1, hb1⟩
  have hB := hb0.size
  have hb2 : Below w.heap.size w w1 := hb0.trans (hb1.mono (by omega))
  generalize w0.heap.size = b at *
  clear hb0 hb1
  go_wp2_with fail
  go_loopw [5] (fun i wr => ∃ (j : Nat) (m : M), j ≤ n ∧ i = .int .i64 j ∧ Mac wr b m ∧ Ok m ∧ Below w.heap.size w wr) (fun i _ => n - (intOf i).toNat)
  case atStart => exact ⟨0, newM 3 2, by omega, rfl, hM1, hok0, hb2⟩
  case round =>
    clear hM1 hb2 hok0
    obtain ⟨i, m, hi, rfl, hM1, hok, hb2⟩ := hrel
    by_cases hlt : i < n
    · obtain ⟨bl, o, X, rfl, hbl, g1, -⟩ := hI.at_ hb2 hlt
      have hlay := layers hok X
      have hok2 := hok.go X
      have hst := State_any hM1
      obtain ⟨was, hwas⟩ : ∃ was, m.state = was := ⟨_, rfl⟩
      rw [hwas] at hst hlay
      clear hwas
      by_cases hX : X = -2
      · subst hX
        have htk := tick_on hM1 hok hb2 hB
        have q1 : tickL m = goL m (-2) := rfl
        have q2 : tickM m = goM m (-2) := rfl
        rw [q1, q2] at htk
        clear q1 q2
        go_wp2_with (first | (go_at_call 20; go_must (refine hst.mono ?_; rintro e _ ⟨rfl, rfl⟩)) | (go_at_call 21; refine htk.mono ?_; rintro e w2 ⟨p, q, rfl, hN, -, hM2, hb3⟩))
        clear htk hst hM1 hb2 hok
        generalize hm' : goM m (-2) = m' at *
        generalize hL : goL m (-2) = L at *
        clear hm' hL
        have hmx := hN.max
        obtain ⟨hu, hd⟩ := hlay
        have hu' := Lib.hid hu
        have hd' := Lib.hid hd
        clear hu hd
        go_loopw [8, 9, 10] (fun u v k wr => ∃ j r U V : Nat, j ≤ L.length ∧ k = .int .i64 j ∧ u = .int .i64 U ∧ v = .int .i64 V ∧ U = (L.take j).count 0 ∧ V = (L.take j).count 1 ∧ wr = w2.drewN r) (fun _ _ k _ => L.length - (intOf k).toNat)
        case atStart => exact ⟨0, 0, 0, 0, by omega, rfl, rfl, rfl, rfl, rfl, rfl⟩
        case round =>
          obtain ⟨j, r, U, V, hj, rfl, rfl, rfl, hU, hV, rfl⟩ := hrel
          have hUl : U ≤ 1 := by
            have h1 := List.Sublist.count_le 0 (List.take_sublist j L)
            have h2 := hu'.out
            rw [h2] at h1
            split at h1 <;> omega
          have hVl : V ≤ 1 := by
            have h1 := List.Sublist.count_le 1 (List.take_sublist j L)
            have h2 := hd'.out
            rw [h2] at h1
            split at h1 <;> omega
          by_cases hjl : j < L.length
          · obtain ⟨bl, rfl, g1⟩ := (hN.drewN r).cell hjl
            have hsn : L.take (j + 1) = L.take j ++ [L[j]] := List.take_succ_eq_append_getElem hjl
            generalize L[j] = Y at *
            have hsn' := Lib.hid hsn
            have hU' := Lib.hid hU
            have hV' := Lib.hid hV
            clear hsn hU hV
            obtain ⟨W, hW⟩ : ∃ W, w2.drewN r = W := ⟨_, rfl⟩
            rw [hW] at g1 ⊢
            have hW' := Lib.hid hW
            clear hW
            by_cases h0 : Y = 0
            · subst h0
              go_wp2_with fail
              go_roundw
              case rel => exact ⟨j + 1, r, U + 1, V, by omega, by go_num, by go_num, rfl, by rw [hsn'.out, hU'.out]; simp, by rw [hsn'.out, hV'.out]; simp, hW'.out.symm⟩
              case measure => simp [intOf]; omega
            · have k0 : ((Y : Int) == 0) = false := by simp; omega
              by_cases h1 : Y = 1
              · subst h1
                go_wp2_with fail
                go_roundw
                case rel => exact ⟨j + 1, r, U, V + 1, by omega, by go_num, rfl, by go_num, by rw [hsn'.out, hU'.out]; simp, by rw [hsn'.out, hV'.out]; simp, hW'.out.symm⟩
                case measure => simp [intOf]; omega
              · have k1 : ((Y : Int) == 1) = false := by simp; omega
                go_wp2_with fail
                go_roundw
                case rel => exact ⟨j + 1, r, U, V, by omega, by go_num, rfl, rfl, by rw [hsn'.out, hU'.out, List.count_append, List.count_singleton]; simp [h0], by rw [hsn'.out, hV'.out, List.count_append, List.count_singleton]; simp [h1], hW'.out.symm⟩
                case measure => simp [intOf]; omega
          · obtain rfl : j = L.length := by omega
            rw [List.take_of_length_le (Nat.le_refl _)] at hU hV
            have hM3 := hM2.below (below_drewN (Below.refl _ _) r) hM2.lt
            have hb4 := below_drewN hb3 r
            have hst := State_any hM3
            rw [hu'.out] at hU
            rw [hd'.out] at hV
            generalize w2.drewN r = W at *
            obtain ⟨now, hnow⟩ : ∃ now, m'.state = now := ⟨_, rfl⟩
            rw [hnow] at hst hU hV
            clear hN hnow hUl hVl hu' hd'
            by_cases hw : was = 9
            · subst hw
              by_cases hn9 : now = 9
              · subst hn9
                obtain rfl : U = 0 := by simpa using hU
                obtain rfl : V = 0 := by simpa using hV
                clear hU hV
                go_wp2_with (go_at_call 20; go_must (refine hst.mono ?_; rintro e _ ⟨rfl, rfl⟩))
                go_roundw
                case rel => exact ⟨i + 1, m', by omega, by go_num, hM3, hok2, hb4⟩
                case measure => simp [intOf]; omega
              · have k9 : ((now : Int) == 9) = false := by simp; omega
                have k9b : ((now : Int) != 9) = true := by simp; omega
                obtain rfl : U = 0 := by simpa using hU
                obtain rfl : V = 1 := by simpa [hn9] using hV
                clear hU hV
                go_wp2_with (go_at_call 20; go_must (refine hst.mono ?_; rintro e _ ⟨rfl, rfl⟩))
                go_roundw
                case rel => exact ⟨i + 1, m', by omega, by go_num, hM3, hok2, hb4⟩
                case measure => simp [intOf]; omega
            · have kw : ((was : Int) == 9) = false := by simp; omega
              have kwb : ((was : Int) != 9) = true := by simp; omega
              by_cases hn9 : now = 9
              · subst hn9
                obtain rfl : U = 1 := by simpa [hw] using hU
                obtain rfl : V = 0 := by simpa using hV
                clear hU hV
                go_wp2_with (go_at_call 20; go_must (refine hst.mono ?_; rintro e _ ⟨rfl, rfl⟩))
                go_roundw
                case rel => exact ⟨i + 1, m', by omega, by go_num, hM3, hok2, hb4⟩
                case measure => simp [intOf]; omega
              · have k9 : ((now : Int) == 9) = false := by simp; omega
                have k9b : ((now : Int) != 9) = true := by simp; omega
                obtain rfl : U = 0 := by simpa [hn9] using hU
                obtain rfl : V = 0 := by simpa [hw] using hV
                clear hU hV
                go_wp2_with (go_at_call 20; go_must (refine hst.mono ?_; rintro e _ ⟨rfl, rfl⟩))
                go_roundw
                case rel => exact ⟨i + 1, m', by omega, by go_num, hM3, hok2, hb4⟩
                case measure => simp [intOf]; omega
      · have hX' : (X == -2) = false := by simpa using hX
        have htk := do_on hM1 hok X hb2 hB
        have q1 : doL m X = goL m X := (if_neg hX).symm
        have q2 : doM m X = goM m X := (if_neg hX).symm
        rw [q1, q2] at htk
        clear q1 q2
        go_wp2_with (first | (go_at_call 20; go_must (refine hst.mono ?_; rintro e _ ⟨rfl, rfl⟩)) | (go_at_call 19; refine htk.mono ?_; rintro e w2 ⟨p, q, rfl, hN, -, hM2, hb3⟩))
        clear htk hst hM1 hb2 hok
        generalize hm' : goM m X = m' at *
        generalize hL : goL m X = L at *
        clear hm' hL
        have hmx := hN.max
        obtain ⟨hu, hd⟩ := hlay
        have hu' := Lib.hid hu
        have hd' := Lib.hid hd
        clear hu hd
        go_loopw [8, 9, 10] (fun u v k wr => ∃ j r U V : Nat, j ≤ L.length ∧ k = .int .i64 j ∧ u = .int .i64 U ∧ v = .int .i64 V ∧ U = (L.take j).count 0 ∧ V = (L.take j).count 1 ∧ wr = w2.drewN r) (fun _ _ k _ => L.length - (intOf k).toNat)
        case atStart => exact ⟨0, 0, 0, 0, by omega, rfl, rfl, rfl, rfl, rfl, rfl⟩
        case round =>
          obtain ⟨j, r, U, V, hj, rfl, rfl, rfl, hU, hV, rfl⟩ := hrel
          have hUl : U ≤ 1 := by
            have h1 := List.Sublist.count_le 0 (List.take_sublist j L)
            have h2 := hu'.out
            rw [h2] at h1
            split at h1 <;> omega
          have hVl : V ≤ 1 := by
            have h1 := List.Sublist.count_le 1 (List.take_sublist j L)
            have h2 := hd'.out
            rw [h2] at h1
            split at h1 <;> omega
          by_cases hjl : j < L.length
          · obtain ⟨bl, rfl, g1⟩ := (hN.drewN r).cell hjl
            have hsn : L.take (j + 1) = L.take j ++ [L[j]] := List.take_succ_eq_append_getElem hjl
            generalize L[j] = Y at *
            have hsn' := Lib.hid hsn
            have hU' := Lib.hid hU
            have hV' := Lib.hid hV
            clear hsn hU hV
            obtain ⟨W, hW⟩ : ∃ W, w2.drewN r = W := ⟨_, rfl⟩
            rw [hW] at g1 ⊢
            have hW' := Lib.hid hW
            clear hW
            by_cases h0 : Y = 0
            · subst h0
              go_wp2_with fail
              go_roundw
              case rel => exact ⟨j + 1, r, U + 1, V, by omega, by go_num, by go_num, rfl, by rw [hsn'.out, hU'.out]; simp, by rw [hsn'.out, hV'.out]; simp, hW'.out.symm⟩
              case measure => simp [intOf]; omega
            · have k0 : ((Y : Int) == 0) = false := by simp; omega
              by_cases h1 : Y = 1
              · subst h1
                go_wp2_with fail
                go_roundw
                case rel => exact ⟨j + 1, r, U, V + 1, by omega, by go_num, rfl, by go_num, by rw [hsn'.out, hU'.out]; simp, by rw [hsn'.out, hV'.out]; simp, hW'.out.symm⟩
                case measure => simp [intOf]; omega
              · have k1 : ((Y : Int) == 1) = false := by simp; omega
                go_wp2_with fail
                go_roundw
                case rel => exact ⟨j + 1, r, U, V, by omega, by go_num, rfl, rfl, by rw [hsn'.out, hU'.out, List.count_append, List.count_singleton]; simp [h0], by rw [hsn'.out, hV'.out, List.count_append, List.count_singleton]; simp [h1], hW'.out.symm⟩
                case measure => simp [intOf]; omega
          · obtain rfl : j = L.length := by omega
            rw [List.take_of_length_le (Nat.le_refl _)] at hU hV
            have hM3 := hM2.below (below_drewN (Below.refl _ _) r) hM2.lt
            have hb4 := below_drewN hb3 r
            have hst := State_any hM3
            rw [hu'.out] at hU
            rw [hd'.out] at hV
            generalize w2.drewN r = W at *
            obtain ⟨now, hnow⟩ : ∃ now, m'.state = now := ⟨_, rfl⟩
            rw [hnow] at hst hU hV
            clear hN hnow hUl hVl hu' hd'
            by_cases hw : was = 9
            · subst hw
              by_cases hn9 : now = 9
              · subst hn9
                obtain rfl : U = 0 := by simpa using hU
                obtain rfl : V = 0 := by simpa using hV
                clear hU hV
                go_wp2_with (go_at_call 20; go_must (refine hst.mono ?_; rintro e _ ⟨rfl, rfl⟩))
                go_roundw
                case rel => exact ⟨i + 1, m', by omega, by go_num, hM3, hok2, hb4⟩
                case measure => simp [intOf]; omega
              · have k9 : ((now : Int) == 9) = false := by simp; omega
                have k9b : ((now : Int) != 9) = true := by simp; omega
                obtain rfl : U = 0 := by simpa using hU
                obtain rfl : V = 1 := by simpa [hn9] using hV
                clear hU hV
                go_wp2_with (go_at_call 20; go_must (refine hst.mono ?_; rintro e _ ⟨rfl, rfl⟩))
                go_roundw
                case rel => exact ⟨i + 1, m', by omega, by go_num, hM3, hok2, hb4⟩
                case measure => simp [intOf]; omega
            · have kw : ((was : Int) == 9) = false := by simp; omega
              have kwb : ((was : Int) != 9) = true := by simp; omega
              by_cases hn9 : now = 9
              · subst hn9
                obtain rfl : U = 1 := by simpa [hw] using hU
                obtain rfl : V = 0 := by simpa using hV
                clear hU hV
                go_wp2_with (go_at_call 20; go_must (refine hst.mono ?_; rintro e _ ⟨rfl, rfl⟩))
                go_roundw
                case rel => exact ⟨i + 1, m', by omega, by go_num, hM3, hok2, hb4⟩
                case measure => simp [intOf]; omega
              · have k9 : ((now : Int) == 9) = false := by simp; omega
                have k9b : ((now : Int) != 9) = true := by simp; omega
                obtain rfl : U = 0 := by simpa [hn9] using hU
                obtain rfl : V = 0 := by simpa [hw] using hV
                clear hU hV
                go_wp2_with (go_at_call 20; go_must (refine hst.mono ?_; rintro e _ ⟨rfl, rfl⟩))
                go_roundw
                case rel => exact ⟨i + 1, m', by omega, by go_num, hM3, hok2, hb4⟩
                case measure => simp [intOf]; omega
    · obtain rfl : i = n := by omega
      go_wp2_with fail
      go_ret
      exact ⟨rfl, hb2⟩
theorem play_layers {w : World} {a : Option Addr} {n c : Nat} {zs : List Int} (hI : IsRow .i64 w a n c zs) :
    Calls Try.prog 10 #[.slice a n c] w fun e w' => e = .returned (.bool true) ∧ Below w.heap.size w w' := by
  by_cases hn : n ≤ 300
  · exact layers_in (Its.of_row hI) hn
  · have hm := hI.le
    go_enter Try.func10, Try.ntmps10
    go_wp2_with (go_at_call 13; refine (awake_any _).mono ?_; rintro e w0 ⟨rfl, hb0⟩)
    go_ret
    exact ⟨rfl, hb0⟩
end Go.Proofs.Ytjcigaonadkhkaa
