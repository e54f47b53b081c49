/-
  The walks of both automatons' methods: New, Do, Tick, State, Count, Running.
-/
import Derived.Test.YtjcigaonadkhkaaFsmRMach
import Derived.Test.YtjcigaonadkhkaaFsmP
namespace Go.Proofs.Ytjcigaonadkhkaa
open Go.RowKit
theorem Mac.below {w w' : World} {b B : Nat} {m : M} (h : Mac w b m) (hb : Below B w w') (hB : b < B) : Mac w' b m := Blk.below h hb hB
theorem RMac.below {w w' : World} {b B : Nat} {m : M} (h : RMac w b m) (hb : Below B w w') (hB : b < B) : RMac w' b m := Blk.below h hb hB
theorem Mac.grown {w w' : World} {b d : Nat} {m : M} (h : Mac w b m) (hg : w.grownBy w' (some d)) (hne : b ≠ d) : Mac w' b m := Blk.grown h hg (by simpa using hne)
theorem RMac.grown {w w' : World} {b d : Nat} {m : M} (h : RMac w b m) (hg : w.grownBy w' (some d)) (hne : b ≠ d) : RMac w' b m := Blk.grown h hg (by simpa using hne)
theorem Said.of_set {w w' : World} {b o : Nat} {v : Value} {l : List Nat} {e : Ending} (h : Said (w.setCell ⟨b, o, none⟩ v) b l e w') : Said w b l e w' := by
  obtain ⟨a, c, rfl, hN, hg⟩ := h
  exact ⟨a, c, rfl, hN.mono (by simp [World.setCell]), grown_trans grown_set hg⟩
theorem Said.nil (w : World) (b : Nat) : Said w b [] (.returned (.slice none 0 0)) w := ⟨none, 0, rfl, Nums.nil _ _, grown_refl _ _⟩
theorem New_yes {n t : Nat} (n1 : 1 ≤ n) (n2 : n ≤ 1000) (t1 : 1 ≤ t) (t2 : t ≤ 1000) (w : World) :
    Calls Try.prog 17 #[.int .i64 n, .int .i64 t] w fun e w' => e = .returned (.tuple #[.pointer (some ⟨w.heap.size, 0, none⟩), .int .i64 0]) ∧ Mac w' w.heap.size (newM n t) ∧ Below w.heap.size w w' := by
  go_enter Try.func17, Try.ntmps17
  go_wp2
  go_ret2
  exact ⟨rfl, Blk.new _ _ _, below_alloc (Below.refl _ _) _ (Nat.le_refl _)⟩
theorem New_no {n t : Int} (h : ¬ (1 ≤ n ∧ n ≤ 1000 ∧ 1 ≤ t ∧ t ≤ 1000)) (w : World) :
    Calls Try.prog 17 #[.int .i64 n, .int .i64 t] w fun e w' => e = .returned (.tuple #[.pointer none, .int .i64 1]) ∧ w' = w := by
  go_enter Try.func17, Try.ntmps17
  by_cases h1 : n < 1
  · go_wp2
    go_ret2
    exact ⟨rfl, rfl⟩
  · by_cases h2 : 1000 < n
    · go_wp2
      go_ret2
      exact ⟨rfl, rfl⟩
    · by_cases h3 : t < 1
      · go_wp2
        go_ret2
        exact ⟨rfl, rfl⟩
      · have h4 : 1000 < t := by omega
        go_wp2
        go_ret2
        exact ⟨rfl, rfl⟩
theorem RNew_yes {n t : Nat} (n1 : 1 ≤ n) (n2 : n ≤ 1000) (t1 : 1 ≤ t) (t2 : t ≤ 1000) (w : World) :
    Calls Try.prog 23 #[.int .i64 n, .int .i64 t] w fun e w' => e = .returned (.tuple #[.pointer (some ⟨w.heap.size, 0, none⟩), .int .i64 0]) ∧ RMac w' w.heap.size (newM n t) ∧ Below w.heap.size w w' := by
  go_enter Try.func23, Try.ntmps23
  go_wp2
  go_ret2
  exact ⟨rfl, Blk.new _ _ _, below_alloc (Below.refl _ _) _ (Nat.le_refl _)⟩
theorem RNew_no {n t : Int} (h : ¬ (1 ≤ n ∧ n ≤ 1000 ∧ 1 ≤ t ∧ t ≤ 1000)) (w : World) :
    Calls Try.prog 23 #[.int .i64 n, .int .i64 t] w fun e w' => e = .returned (.tuple #[.pointer none, .int .i64 1]) ∧ w' = w := by
  go_enter Try.func23, Try.ntmps23
  by_cases h1 : n < 1
  · go_wp2
    go_ret2
    exact ⟨rfl, rfl⟩
  · by_cases h2 : 1000 < n
    · go_wp2
      go_ret2
      exact ⟨rfl, rfl⟩
    · by_cases h3 : t < 1
      · go_wp2
        go_ret2
        exact ⟨rfl, rfl⟩
      · have h4 : 1000 < t := by omega
        go_wp2
        go_ret2
        exact ⟨rfl, rfl⟩
theorem made_any {w : World} {b : Nat} {m : M} (hM : Mac w b m) (h : Ok m) :
    Calls Try.prog 30 #[.pointer (some ⟨b, 0, none⟩)] w fun e w' => e = .returned (.bool true) ∧ w' = w := by
  have c0 := hM.cell 0
  simp only [mCells, iv, List.getElem?_toArray, List.getElem?_cons_zero] at c0
  have h1 := h.t1
  go_enter Try.func30, Try.ntmps30
  go_wp2
  go_ret
  exact ⟨ret_bool (by simp; omega), rfl⟩
theorem State_any {w : World} {b : Nat} {m : M} (hM : Mac w b m) :
    Calls Try.prog 20 #[.pointer (some ⟨b, 0, none⟩)] w fun e w' => e = .returned (.int .i64 m.state) ∧ w' = w := by
  have c2 := hM.cell 2
  simp only [mCells, iv, List.getElem?_toArray, List.getElem?_cons_zero, List.getElem?_cons_succ] at c2
  go_enter Try.func20, Try.ntmps20
  go_wp2
  go_ret
  exact ⟨rfl, rfl⟩
theorem Count_any {w : World} {b : Nat} {m : M} (hM : Mac w b m) :
    Calls Try.prog 26 #[.pointer (some ⟨b, 0, none⟩)] w fun e w' => e = .returned (.int .i64 m.count) ∧ w' = w := by
  have c2 := hM.cell 3
  simp only [mCells, iv, List.getElem?_toArray, List.getElem?_cons_zero, List.getElem?_cons_succ] at c2
  go_enter Try.func26, Try.ntmps26
  go_wp2
  go_ret
  exact ⟨rfl, rfl⟩
theorem Running_any {w : World} {b : Nat} {m : M} (hM : Mac w b m) :
    Calls Try.prog 22 #[.pointer (some ⟨b, 0, none⟩)] w fun e w' => e = .returned (.bool (decide (0 < m.left))) ∧ w' = w := by
  have c2 := hM.cell 4
  simp only [mCells, iv, List.getElem?_toArray, List.getElem?_cons_zero, List.getElem?_cons_succ] at c2
  go_enter Try.func22, Try.ntmps22
  go_wp2
  go_ret
  exact ⟨ret_bool (by simp), rfl⟩
theorem Do_any {w : World} {b : Nat} {m : M} (hM : Mac w b m) (h : Ok m) (e : Int) :
    Calls Try.prog 19 #[.pointer (some ⟨b, 0, none⟩), .int .i64 e] w fun x w' => Said w b (doL m e) x w' ∧ Mac w' b (doM m e) := by
  have hm := made_any hM h
  by_cases h4 : e = 4
  · subst h4
    go_enter Try.func19, Try.ntmps19
    go_wp2_with (go_at_call 30; refine hm.mono ?_; rintro x w1 ⟨rfl, rfl⟩)
    go_ret
    exact ⟨Said.nil _ _, hM⟩
  · by_cases h5 : e = 5
    · subst h5
      go_enter Try.func19, Try.ntmps19
      go_wp2_with (go_at_call 30; refine hm.mono ?_; rintro x w1 ⟨rfl, rfl⟩)
      go_ret
      exact ⟨Said.nil _ _, hM⟩
    · have hd := does_any hM h.s h.c h.t2 e
      have hq : doL m e = actsI m.state e ∧ doM m e = doesM m e := by
        unfold doL doM
        by_cases ho : outer e
        · rw [if_pos ho, if_pos ho]
          obtain ⟨k1, k2⟩ := does_out h (e := e) (by unfold outer at ho; omega)
          rw [k1, k2]; exact ⟨rfl, rfl⟩
        · rw [if_neg ho, if_neg ho]; exact ⟨rfl, rfl⟩
      rw [hq.1, hq.2]
      clear hq
      generalize actsI m.state e = l at *
      generalize doesM m e = m' at *
      have h4 : (e == 4) = false := by simpa using h4
      have h5 : (e == 5) = false := by simpa using h5
      go_enter Try.func19, Try.ntmps19
      go_wp2_with (first | (go_at_call 30; refine hm.mono ?_; rintro x w1 ⟨rfl, rfl⟩) | (go_at_call 31; refine hd.mono ?_; rintro x w1 ⟨⟨a, c, rfl, hN, hg⟩, hM1⟩))
      go_ret
      exact ⟨⟨a, c, rfl, hN, hg⟩, hM1⟩
theorem RDo_any {w : World} {b : Nat} {m : M} (hM : RMac w b m) (h : Ok m) (e : Int) :
    Calls Try.prog 25 #[.pointer (some ⟨b, 0, none⟩), .int .i64 e] w fun x w' => Said w b (doL m e) x w' ∧ RMac w' b (doM m e) := by
  by_cases ho : outer e
  · have hl : doL m e = [] := if_pos ho
    have hm : doM m e = m := if_pos ho
    rw [hl, hm]
    clear hl hm
    unfold outer at ho
    by_cases h1 : e < 0
    · go_enter Try.func25, Try.ntmps25
      go_wp2
      go_ret
      exact ⟨Said.nil _ _, hM⟩
    · by_cases h2 : 16 ≤ e
      · go_enter Try.func25, Try.ntmps25
        go_wp2
        go_ret
        exact ⟨Said.nil _ _, hM⟩
      · by_cases h4 : e = 4
        · subst h4
          go_enter Try.func25, Try.ntmps25
          go_wp2
          go_ret
          exact ⟨Said.nil _ _, hM⟩
        · obtain rfl : e = 5 := by omega
          go_enter Try.func25, Try.ntmps25
          go_wp2
          go_ret
          exact ⟨Said.nil _ _, hM⟩
  · have hl : doL m e = actsI m.state e := if_neg ho
    have hm : doM m e = doesM m e := if_neg ho
    rw [hl, hm]
    clear hl hm
    unfold outer at ho
    have h0 : 0 ≤ e := by omega
    have h15 : e ≤ 15 := by omega
    have h4 : (e == 4) = false := by simp; omega
    have h5 : (e == 5) = false := by simp; omega
    clear ho
    have hd := rstep_any hM h.s h.c h.t2 e
    generalize actsI m.state e = l at *
    generalize doesM m e = m' at *
    go_enter Try.func25, Try.ntmps25
    go_wp2_with (go_at_call 33; refine hd.mono ?_; rintro x w1 ⟨⟨a, c, rfl, hN, hg⟩, hM1⟩)
    go_ret
    exact ⟨⟨a, c, rfl, hN, hg⟩, hM1⟩
theorem Tick_any {w : World} {b : Nat} {m : M} (hM : Mac w b m) (h : Ok m) :
    Calls Try.prog 21 #[.pointer (some ⟨b, 0, none⟩)] w fun x w' => Said w b (tickL m) x w' ∧ Mac w' b (tickM m) := by
  have hm := made_any hM h
  have c3 := hM.cell 3
  have c4 := hM.cell 4
  have f4 := hM.free 4 none
  have s3 := fun v => (hM.set 4 v).cell 3
  have s4 := fun v => (hM.set 4 v).cell 4
  simp only [mCells, iv, List.setIfInBounds_toArray, List.set_cons_succ, List.set_cons_zero, List.getElem?_toArray, List.getElem?_cons_zero, List.getElem?_cons_succ] at c3 c4 s3 s4
  by_cases h0 : m.left = 0
  · rw [(tick_none h0).1, (tick_none h0).2]
    go_enter Try.func21, Try.ntmps21
    go_wp2_with (go_at_call 30; refine hm.mono ?_; rintro x w1 ⟨rfl, rfl⟩)
    go_ret
    exact ⟨Said.nil _ _, hM⟩
  · have hl := h.l
    have ho := h.o2
    have hw := IntWalk.wrap64_in ((m.left : Int) - 1) (by omega)
    have k0 : ((m.left : Int) == 0) = false := by simp; omega
    by_cases h1 : m.left = 1
    · have hA : Mac (w.setCell ⟨b, 4, none⟩ (.int .i64 0)) b { m with left := 0 } := hM.set 4 _
      have hd := does_any hA h.s h.c h.t2 (tickE m)
      have hq1 : tickL m = actsI m.state (tickE m) := if_pos h1
      have hq2 : tickM m = doesM { m with left := 0 } (tickE m) := (if_neg h0).trans (if_pos h1)
      have hok := h.tick
      rw [hq2] at hok
      rw [hq1, hq2]
      clear hq1 hq2
      simp only at hd
      generalize actsI m.state (tickE m) = l at *
      generalize doesM { m with left := 0 } (tickE m) = m' at *
      have hrun := hok.run
      unfold waitsN at hrun
      clear hok
      have hE : tickE m = if 0 < m.count then 4 else 5 := rfl
      rw [h1] at c4
      by_cases hc : 0 < m.count
      · rw [if_pos hc] at hE
        rw [hE] at hd
        clear hE
        by_cases hz : m'.left = 0
        · have hwt := fun W => waits_any m'.state W
          have hdf : decide (4 ≤ m'.state ∧ m'.state ≤ 8) = false := by simp; omega
          simp only [hdf] at hwt
          clear hrun hdf
          go_enter Try.func21, Try.ntmps21
          go_wp2_with (first | (go_at_call 30; refine hm.mono ?_; rintro x w1 ⟨rfl, rfl⟩) | (go_at_call 31; refine hd.mono ?_; rintro x w1 ⟨⟨a, c, rfl, hN, hg⟩, hM1⟩; have d2 := hM1.cell 2; have d4 := hM1.cell 4; simp only [mCells, iv, hz, List.getElem?_toArray, List.getElem?_cons_zero, List.getElem?_cons_succ] at d2 d4) | (go_at_call 32; refine (hwt _).mono ?_; rintro x w3 ⟨rfl, rfl⟩))
          go_ret
          exact ⟨Said.of_set ⟨a, c, rfl, hN, hg⟩, hM1⟩
        · have kz : ((m'.left : Int) == 0) = false := by simp; omega
          clear hrun
          go_enter Try.func21, Try.ntmps21
          go_wp2_with (first | (go_at_call 30; refine hm.mono ?_; rintro x w1 ⟨rfl, rfl⟩) | (go_at_call 31; refine hd.mono ?_; rintro x w1 ⟨⟨a, c, rfl, hN, hg⟩, hM1⟩; have d4 := hM1.cell 4; simp only [mCells, iv, List.getElem?_toArray, List.getElem?_cons_zero, List.getElem?_cons_succ] at d4))
          go_ret
          exact ⟨Said.of_set ⟨a, c, rfl, hN, hg⟩, hM1⟩
      · rw [if_neg hc] at hE
        rw [hE] at hd
        clear hE
        by_cases hz : m'.left = 0
        · have hwt := fun W => waits_any m'.state W
          have hdf : decide (4 ≤ m'.state ∧ m'.state ≤ 8) = false := by simp; omega
          simp only [hdf] at hwt
          clear hrun hdf
          go_enter Try.func21, Try.ntmps21
          go_wp2_with (first | (go_at_call 30; refine hm.mono ?_; rintro x w1 ⟨rfl, rfl⟩) | (go_at_call 31; refine hd.mono ?_; rintro x w1 ⟨⟨a, c, rfl, hN, hg⟩, hM1⟩; have d2 := hM1.cell 2; have d4 := hM1.cell 4; simp only [mCells, iv, hz, List.getElem?_toArray, List.getElem?_cons_zero, List.getElem?_cons_succ] at d2 d4) | (go_at_call 32; refine (hwt _).mono ?_; rintro x w3 ⟨rfl, rfl⟩))
          go_ret
          exact ⟨Said.of_set ⟨a, c, rfl, hN, hg⟩, hM1⟩
        · have kz : ((m'.left : Int) == 0) = false := by simp; omega
          clear hrun
          go_enter Try.func21, Try.ntmps21
          go_wp2_with (first | (go_at_call 30; refine hm.mono ?_; rintro x w1 ⟨rfl, rfl⟩) | (go_at_call 31; refine hd.mono ?_; rintro x w1 ⟨⟨a, c, rfl, hN, hg⟩, hM1⟩; have d4 := hM1.cell 4; simp only [mCells, iv, List.getElem?_toArray, List.getElem?_cons_zero, List.getElem?_cons_succ] at d4))
          go_ret
          exact ⟨Said.of_set ⟨a, c, rfl, hN, hg⟩, hM1⟩
    · have h2 : 1 < m.left := by omega
      have k1 : (0 : Int) < (m.left : Int) - 1 := by omega
      rw [(tick_down h2).1, (tick_down h2).2]
      have hA : Mac (w.setCell ⟨b, 4, none⟩ (.int .i64 ((m.left : Int) - 1))) b { m with left := m.left - 1 } := by
        rw [show (m.left : Int) - 1 = ((m.left - 1 : Nat) : Int) by omega]; exact hM.set 4 _
      go_enter Try.func21, Try.ntmps21
      go_wp2_with (go_at_call 30; refine hm.mono ?_; rintro x w1 ⟨rfl, rfl⟩)
      go_ret
      exact ⟨Said.of_set (Said.nil _ _), hA⟩
theorem RTick_any {w : World} {b : Nat} {m : M} (hM : RMac w b m) (h : Ok m) :
    Calls Try.prog 24 #[.pointer (some ⟨b, 0, none⟩)] w fun x w' => Said w b (tickL m) x w' ∧ RMac w' b (tickM m) := by
  have c3 := hM.cell 1
  have c4 := hM.cell 2
  have f4 := hM.free 2 none
  have s3 := fun v => (hM.set 2 v).cell 1
  have s4 := fun v => (hM.set 2 v).cell 2
  simp only [rCells, iv, List.setIfInBounds_toArray, List.set_cons_succ, List.set_cons_zero, List.getElem?_toArray, List.getElem?_cons_zero, List.getElem?_cons_succ] at c3 c4 s3 s4
  by_cases h0 : m.left = 0
  · rw [(tick_none h0).1, (tick_none h0).2]
    go_enter Try.func24, Try.ntmps24
    go_wp2
    go_ret
    exact ⟨Said.nil _ _, hM⟩
  · have hl := h.l
    have ho := h.o2
    have hw := IntWalk.wrap64_in ((m.left : Int) - 1) (by omega)
    have k0 : ((m.left : Int) == 0) = false := by simp; omega
    by_cases h1 : m.left = 1
    · have hA : RMac (w.setCell ⟨b, 2, none⟩ (.int .i64 0)) b { m with left := 0 } := hM.set 2 _
      have hd := rstep_any hA h.s h.c h.t2 (tickE m)
      have hq1 : tickL m = actsI m.state (tickE m) := if_pos h1
      have hq2 : tickM m = doesM { m with left := 0 } (tickE m) := (if_neg h0).trans (if_pos h1)
      rw [hq1, hq2]
      clear hq1 hq2
      simp only at hd
      generalize actsI m.state (tickE m) = l at *
      generalize doesM { m with left := 0 } (tickE m) = m' at *
      have hE : tickE m = if 0 < m.count then 4 else 5 := rfl
      rw [h1] at c4
      by_cases hc : 0 < m.count
      · rw [if_pos hc] at hE
        rw [hE] at hd
        clear hE
        go_enter Try.func24, Try.ntmps24
        go_wp2_with (go_at_call 33; refine hd.mono ?_; rintro x w1 ⟨⟨a, c, rfl, hN, hg⟩, hM1⟩)
        go_ret
        exact ⟨Said.of_set ⟨a, c, rfl, hN, hg⟩, hM1⟩
      · rw [if_neg hc] at hE
        rw [hE] at hd
        clear hE
        go_enter Try.func24, Try.ntmps24
        go_wp2_with (go_at_call 33; refine hd.mono ?_; rintro x w1 ⟨⟨a, c, rfl, hN, hg⟩, hM1⟩)
        go_ret
        exact ⟨Said.of_set ⟨a, c, rfl, hN, hg⟩, hM1⟩
    · have h2 : 1 < m.left := by omega
      have k1 : (0 : Int) < (m.left : Int) - 1 := by omega
      rw [(tick_down h2).1, (tick_down h2).2]
      have hA : RMac (w.setCell ⟨b, 2, none⟩ (.int .i64 ((m.left : Int) - 1))) b { m with left := m.left - 1 } := by
        rw [show (m.left : Int) - 1 = ((m.left - 1 : Nat) : Int) by omega]; exact hM.set 2 _
      go_enter Try.func24, Try.ntmps24
      go_wp2
      go_ret
      exact ⟨Said.of_set (Said.nil _ _), hA⟩
end Go.Proofs.Ytjcigaonadkhkaa
