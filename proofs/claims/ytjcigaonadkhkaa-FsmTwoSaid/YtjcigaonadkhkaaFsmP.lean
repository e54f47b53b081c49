/-
  The automaton's plain laws: a script, how long it runs, the layers, how it closes. No program in sight.
-/
import Derived.Test.YtjcigaonadkhkaaFsmM
namespace Go.Proofs.Ytjcigaonadkhkaa
open Go.RowKit
def goM (m : M) (x : Int) : M := if x = -2 then tickM m else doM m x
def goL (m : M) (x : Int) : List Nat := if x = -2 then tickL m else doL m x
def gosM (m : M) (l : List Int) : M := l.foldl goM m
def newM (n t : Nat) : M := ⟨n, t, 0, 0, 0⟩
theorem Ok.go {m : M} (h : Ok m) (x : Int) : Ok (goM m x) := by
  unfold goM; split
  · exact h.tick
  · exact h.do x
theorem Ok.gos {m : M} (h : Ok m) (l : List Int) : Ok (gosM m l) := by
  unfold gosM
  induction l generalizing m with
  | nil => exact h
  | cons x l ih => exact ih (h.go x)
theorem Ok.new {n t : Nat} (n1 : 1 ≤ n) (n2 : n ≤ 1000) (t1 : 1 ≤ t) (t2 : t ≤ 1000) : Ok (newM n t) :=
  ⟨n1, n2, t1, t2, by simp [newM], by simp [newM], by simp [newM], by simp [newM, waitsN]⟩
/-- what an event never changes -/
def Kin (m m' : M) : Prop := m'.tries = m.tries ∧ m'.timeout = m.timeout
theorem Kin.refl (m : M) : Kin m m := ⟨rfl, rfl⟩
theorem Kin.trans {a b c : M} (h : Kin a b) (k : Kin b c) : Kin a c := ⟨k.1.trans h.1, k.2.trans h.2⟩
theorem kin_does (m : M) (e : Int) : Kin m (doesM m e) := by
  obtain ⟨a1, a2, a3, a4, a5⟩ := fold_fix (actsI m.state e) { m with state := (nextI m.state e).toNat }
  obtain ⟨b1, b2, b3, b4, b5⟩ := rest_fix ((actsI m.state e).foldl actM { m with state := (nextI m.state e).toNat })
  exact ⟨b1.trans a1, b2.trans a2⟩
theorem state_does (m : M) (e : Int) : (doesM m e).state = (nextI m.state e).toNat := by
  obtain ⟨a1, a2, a3, a4, a5⟩ := fold_fix (actsI m.state e) { m with state := (nextI m.state e).toNat }
  obtain ⟨b1, b2, b3, b4, b5⟩ := rest_fix ((actsI m.state e).foldl actM { m with state := (nextI m.state e).toNat })
  exact b3.trans a3
theorem kin_do (m : M) (e : Int) : Kin m (doM m e) := by
  unfold doM; split
  · exact Kin.refl m
  · exact kin_does m e
theorem kin_tick (m : M) : Kin m (tickM m) := by
  unfold tickM; split
  · exact Kin.refl m
  · split
    · exact kin_does _ _
    · exact ⟨rfl, rfl⟩
theorem kin_go (m : M) (x : Int) : Kin m (goM m x) := by
  unfold goM; split
  · exact kin_tick m
  · exact kin_do m x
theorem gos_snoc (m : M) (l : List Int) (x : Int) : gosM m (l ++ [x]) = goM (gosM m l) x := by simp [gosM]
theorem kin_gos (m : M) (l : List Int) : Kin m (gosM m l) := by
  unfold gosM
  induction l generalizing m with
  | nil => exact Kin.refl m
  | cons x l ih => exact (kin_go m x).trans (ih _)
/-! how long it runs -/
theorem waits_five {s : Nat} (h : waitsN s) : s = 4 ∨ s = 5 ∨ s = 6 ∨ s = 7 ∨ s = 8 := by unfold waitsN at h; omega
theorem tick_more {m : M} (h : Ok m) (h1 : m.left = 1) (hc : 0 < m.count) :
    tickL m = [if m.state ≤ 5 then 9 else 6] ∧ tickM m = { m with state := if m.state = 7 then 6 else m.state, count := m.count - 1, left := m.timeout } := by
  have hw := waits_five (h.run.1 (by omega))
  obtain ⟨tr, to, s, c, l⟩ := m
  simp only at h1 hc hw
  subst h1
  have e4 : tickE ⟨tr, to, s, c, 1⟩ = 4 := by simp [tickE, hc]
  unfold tickL tickM
  simp only [e4, if_true, if_neg (show ¬ (1 : Nat) = 0 by decide)]
  rcases hw with rfl | rfl | rfl | rfl | rfl <;> exact ⟨rfl, rfl⟩
theorem tick_over {m : M} (h : Ok m) (h1 : m.left = 1) (hc : m.count = 0) :
    tickL m = [3] ∧ tickM m = { m with state := if m.state = 4 then 2 else 3, left := 0 } := by
  have hw := waits_five (h.run.1 (by omega))
  obtain ⟨tr, to, s, c, l⟩ := m
  simp only at h1 hc hw
  subst h1; subst hc
  rcases hw with rfl | rfl | rfl | rfl | rfl <;> exact ⟨rfl, rfl⟩
theorem tick_down {m : M} (h1 : 1 < m.left) : tickL m = [] ∧ tickM m = { m with left := m.left - 1 } := by
  unfold tickL tickM
  rw [if_neg (by omega), if_neg (by omega), if_neg (by omega)]
  exact ⟨rfl, rfl⟩
theorem tick_none {m : M} (h1 : m.left = 0) : tickL m = [] ∧ tickM m = m := by
  unfold tickL tickM
  rw [if_neg (by omega), if_pos h1]
  exact ⟨rfl, rfl⟩
/-- how many ticks are left -/
def rem (m : M) : Nat := if 0 < m.left then m.left + m.count * m.timeout else 0
theorem rem_pos {m : M} (h : 0 < m.left) : 0 < rem m := by unfold rem; rw [if_pos h]; omega
theorem rem_most {m : M} (h : Ok m) : rem m ≤ (m.tries + 1) * m.timeout := by
  unfold rem
  have h1 := Nat.mul_le_mul_right m.timeout h.c
  have h2 := h.l
  rw [Nat.add_mul, Nat.one_mul]
  split <;> omega
theorem rem_tick {m : M} (h : Ok m) (hl : 0 < m.left) : rem (tickM m) + 1 ≤ rem m := by
  by_cases h1 : m.left = 1
  · by_cases hc : 0 < m.count
    · rw [(tick_more h h1 hc).2]
      have ho := h.o1
      obtain ⟨k, hk⟩ : ∃ k, m.count = k + 1 := ⟨m.count - 1, by omega⟩
      unfold rem
      simp only
      rw [if_pos (by omega), if_pos hl, hk, h1, Nat.add_mul]
      simp
      omega
    · rw [(tick_over h h1 (by omega)).2]
      unfold rem
      simp only
      rw [if_neg (by omega), if_pos hl, h1]
      omega
  · rw [(tick_down (m := m) (by omega)).2]
    unfold rem
    simp only
    rw [if_pos (by omega), if_pos hl]
    omega
theorem still {m : M} (h : Ok m) (hl : m.left = 0) : m.state ≤ 3 ∨ m.state = 9 := by
  have h1 := h.run
  have h2 := h.s
  unfold waitsN at h1
  omega
/-- how often it asks -/
def asksN (l : List Nat) : Nat := l.countP fun a => a == 6 || a == 9
theorem asks_tick {m : M} (h : Ok m) : asksN (tickL m) + (tickM m).count ≤ m.count := by
  by_cases h0 : m.left = 0
  · rw [(tick_none h0).1, (tick_none h0).2]; simp [asksN]
  · by_cases h1 : m.left = 1
    · by_cases hc : 0 < m.count
      · rw [(tick_more h h1 hc).1, (tick_more h h1 hc).2]
        by_cases h5 : m.state ≤ 5
        · simp [asksN, h5]; omega
        · simp [asksN, h5]; omega
      · rw [(tick_over h h1 (by omega)).1, (tick_over h h1 (by omega)).2]; simp [asksN]
    · rw [(tick_down (m := m) (by omega)).1, (tick_down (m := m) (by omega)).2]; simp [asksN]
/-! the layers -/
theorem layer_tab : ∀ s, s < 10 → ∀ e, e < 16 → ((actsN s e).count 0 = if nextN s e = 9 ∧ s ≠ 9 then 1 else 0) ∧ ((actsN s e).count 1 = if s = 9 ∧ nextN s e ≠ 9 then 1 else 0) := by decide
theorem layer_acts {s : Nat} (hs : s ≤ 9) (e : Int) : ((actsI s e).count 0 = if (nextI s e).toNat = 9 ∧ s ≠ 9 then 1 else 0) ∧ ((actsI s e).count 1 = if s = 9 ∧ (nextI s e).toNat ≠ 9 then 1 else 0) := by
  by_cases h : 0 ≤ (s : Int) ∧ (s : Int) ≤ 9 ∧ 0 ≤ e ∧ e < 16
  · obtain ⟨e, rfl⟩ := Int.eq_ofNat_of_zero_le h.2.2.1
    rw [actsI_in hs (by omega), nextI_in hs (by omega)]
    exact layer_tab s (by omega) e (by omega)
  · rw [actsI_out h, nextI_out h]
    constructor
    · rw [if_neg (by omega)]; rfl
    · rw [if_neg (by omega)]; rfl
theorem layers {m : M} (h : Ok m) (x : Int) : ((goL m x).count 0 = if (goM m x).state = 9 ∧ m.state ≠ 9 then 1 else 0) ∧ ((goL m x).count 1 = if m.state = 9 ∧ (goM m x).state ≠ 9 then 1 else 0) := by
  have h0 : ∀ s : Nat, (([] : List Nat).count 0 = if s = 9 ∧ s ≠ 9 then 1 else 0) ∧ (([] : List Nat).count 1 = if s = 9 ∧ s ≠ 9 then 1 else 0) := by
    intro s; rw [if_neg (by omega)]; exact ⟨rfl, rfl⟩
  unfold goL goM
  split
  · by_cases h1 : m.left = 1
    · have h2 : tickL m = actsI m.state (tickE m) := if_pos h1
      have h3 : tickM m = doesM { m with left := 0 } (tickE m) := (if_neg (show ¬ m.left = 0 by omega)).trans (if_pos h1)
      rw [h2, h3, state_does]
      exact layer_acts h.s _
    · by_cases h2 : m.left = 0
      · rw [(tick_none h2).1, (tick_none h2).2]; exact h0 _
      · rw [(tick_down (m := m) (by omega)).1, (tick_down (m := m) (by omega)).2]; exact h0 _
  · unfold doL doM
    split
    · exact h0 _
    · rw [state_does]; exact layer_acts h.s _
/-! how it closes -/
theorem close_tab : ∀ s, s < 10 → nextN (nextN s 3) 1 = 0 ∧ (nextN s 3 = 0 ∨ nextN s 3 = 2 ∨ nextN s 3 = 4) ∧ (nextN s 1 = 0 ∨ nextN s 1 = 1) := by decide
theorem do_state {m : M} (h : Ok m) {e : Nat} (he : e < 16) (h4 : e ≠ 4) (h5 : e ≠ 5) : (doM m e).state = nextN m.state e := by
  unfold doM
  rw [if_neg (by unfold outer; omega), state_does, nextI_in h.s (by omega)]
  simp
theorem close_down {m : M} (h : Ok m) : (doM (doM m 3) 1).state = 0 ∧ (doM (doM m 3) 1).left = 0 := by
  have h1 := do_state h (e := 3) (by decide) (by decide) (by decide)
  have h2 := do_state (h.do ((3 : Nat) : Int)) (e := 1) (by decide) (by decide) (by decide)
  rw [h1] at h2
  have h3 := (close_tab m.state (by have := h.s; omega)).1
  have h4 : (doM (doM m 3) 1).state = 0 := h2.trans h3
  have h5 := ((h.do 3).do 1).run
  rw [h4] at h5
  refine ⟨h4, ?_⟩
  unfold waitsN at h5
  omega
theorem close_alone {m : M} (h : Ok m) : (doM m 3).state = 0 ∨ (doM m 3).state = 2 ∨ (doM m 3).state = 4 := by
  have h1 : (doM m 3).state = nextN m.state 3 := do_state h (e := 3) (by decide) (by decide) (by decide)
  rw [h1]
  exact (close_tab m.state (by have := h.s; omega)).2.1
theorem down_alone {m : M} (h : Ok m) : (doM m 1).state = 0 ∨ (doM m 1).state = 1 := by
  have h1 : (doM m 1).state = nextN m.state 1 := do_state h (e := 1) (by decide) (by decide) (by decide)
  rw [h1]
  exact (close_tab m.state (by have := h.s; omega)).2.2
/-- ticks behind a close: it is at an end, or it goes to one -/
def Closes (k : Nat) (m : M) : Prop := m.state = 0 ∨ m.state = 2 ∨ (m.state = 4 ∧ rem m + k ≤ 8)
theorem closes_tick {m : M} (h : Ok m) {k : Nat} (hc : Closes k m) : Closes (k + 1) (tickM m) := by
  rcases hc with hc | hc | ⟨hc, hr⟩
  · have : m.left = 0 := by have := h.run; unfold waitsN at this; omega
    rw [(tick_none this).2]; exact .inl hc
  · have : m.left = 0 := by have := h.run; unfold waitsN at this; omega
    rw [(tick_none this).2]; exact .inr (.inl hc)
  · have hl : 0 < m.left := h.run.2 (by unfold waitsN; omega)
    have h1 := rem_tick h hl
    by_cases h2 : m.left = 1
    · by_cases h3 : 0 < m.count
      · refine .inr (.inr ⟨?_, by omega⟩)
        rw [(tick_more h h2 h3).2]
        simp [hc]
      · refine .inr (.inl ?_)
        rw [(tick_over h h2 (by omega)).2]
        simp [hc]
    · refine .inr (.inr ⟨?_, by omega⟩)
      rw [(tick_down (m := m) (by omega)).2]
      exact hc
theorem closes_end {m : M} (hc : Closes 12 m) : m.state = 0 ∨ m.state = 2 := by
  rcases hc with h1 | h1 | ⟨h1, h2⟩
  · exact .inl h1
  · exact .inr h1
  · omega
/-! how it starts -/
theorem start_up (n t : Nat) : doM (doM (newM n t) 0) 2 = ⟨n, t, 6, n - 1, t⟩ ∧ doL (doM (newM n t) 0) 2 = [4, 6] := ⟨rfl, rfl⟩
theorem start_open (n t : Nat) : doM (doM (newM n t) 2) 0 = ⟨n, t, 6, n - 1, t⟩ ∧ doL (doM (newM n t) 2) 0 = [4, 6] := ⟨rfl, rfl⟩
end Go.Proofs.Ytjcigaonadkhkaa
