/-
  The automaton as plain numbers: an action, an event, a tick; what holds of it always. No program in sight.
-/
import Derived.Test.YtjcigaonadkhkaaFsmInts
namespace Go.Proofs.Ytjcigaonadkhkaa
open Go.RowKit
structure M where
  tries : Nat
  timeout : Nat
  state : Nat
  count : Nat
  left : Nat
deriving DecidableEq
def waitsN (s : Nat) : Prop := 4 ≤ s ∧ s ≤ 8
instance (s : Nat) : Decidable (waitsN s) := inferInstanceAs (Decidable (4 ≤ s ∧ s ≤ 8))
structure Ok (m : M) : Prop where
  t1 : 1 ≤ m.tries
  t2 : m.tries ≤ 1000
  o1 : 1 ≤ m.timeout
  o2 : m.timeout ≤ 1000
  s : m.state ≤ 9
  c : m.count ≤ m.tries
  l : m.left ≤ m.timeout
  run : 0 < m.left ↔ waitsN m.state
def actM (m : M) (a : Nat) : M :=
  if a = 4 then { m with count := m.tries } else if a = 6 ∨ a = 9 then { m with count := m.count - 1, left := m.timeout } else if a = 5 then { m with count := 0, left := m.timeout } else m
/-- the timer is stopped where it does not wait -/
def rest (m : M) : M := if waitsN m.state then m else { m with left := 0 }
def doesM (m : M) (e : Int) : M := rest ((actsI m.state e).foldl actM { m with state := (nextI m.state e).toNat })
def outer (e : Int) : Prop := e < 0 ∨ 15 < e ∨ e = 4 ∨ e = 5
instance (e : Int) : Decidable (outer e) := inferInstanceAs (Decidable (e < 0 ∨ 15 < e ∨ e = 4 ∨ e = 5))
def doL (m : M) (e : Int) : List Nat := if outer e then [] else actsI m.state e
def doM (m : M) (e : Int) : M := if outer e then m else doesM m e
def tickE (m : M) : Int := if 0 < m.count then 4 else 5
def tickL (m : M) : List Nat := if m.left = 1 then actsI m.state (tickE m) else []
def tickM (m : M) : M := if m.left = 0 then m else if m.left = 1 then doesM { m with left := 0 } (tickE m) else { m with left := m.left - 1 }
def starts (l : List Nat) : Bool := l.any fun a => a == 5 || a == 6 || a == 9
theorem actM_fix (m : M) (a : Nat) : (actM m a).tries = m.tries ∧ (actM m a).timeout = m.timeout ∧ (actM m a).state = m.state ∧ (m.count ≤ m.tries → (actM m a).count ≤ m.tries) ∧
    (actM m a).left = if a = 5 ∨ a = 6 ∨ a = 9 then m.timeout else m.left := by
  unfold actM
  by_cases h1 : a = 4
  · simp [h1]
  · by_cases h2 : a = 6 ∨ a = 9
    · rw [if_neg h1, if_pos h2, if_pos (by omega)]; simp; omega
    · by_cases h3 : a = 5
      · rw [if_neg h1, if_neg h2, if_pos h3, if_pos (by omega)]; simp
      · rw [if_neg h1, if_neg h2, if_neg h3, if_neg (by omega)]; simp
theorem fold_fix (l : List Nat) : ∀ m : M, (l.foldl actM m).tries = m.tries ∧ (l.foldl actM m).timeout = m.timeout ∧ (l.foldl actM m).state = m.state ∧ (m.count ≤ m.tries → (l.foldl actM m).count ≤ m.tries) ∧
    (l.foldl actM m).left = if starts l then m.timeout else m.left := by
  induction l with
  | nil => intro m; simp [starts]
  | cons a l ih =>
    intro m
    obtain ⟨a1, a2, a3, a4, a5⟩ := actM_fix m a
    obtain ⟨b1, b2, b3, b4, b5⟩ := ih (actM m a)
    rw [List.foldl_cons]
    refine ⟨b1.trans a1, b2.trans a2, b3.trans a3, fun h => ?_, ?_⟩
    · rw [a1] at b4; exact b4 (a4 h)
    · rw [b5, a2, a5]
      by_cases h1 : starts l = true
      · have : starts (a :: l) = true := by simp only [starts, List.any_cons] at h1 ⊢; simp [h1]
        simp [h1, this]
      · by_cases h2 : a = 5 ∨ a = 6 ∨ a = 9
        · have : starts (a :: l) = true := by simp only [starts, List.any_cons]; rcases h2 with rfl | rfl | rfl <;> simp
          simp [h1, h2, this]
        · have hs : starts (a :: l) = ((a == 5 || a == 6 || a == 9) || starts l) := rfl
          have hf : (a == 5 || a == 6 || a == 9) = false := by simp; omega
          have : ¬ starts (a :: l) = true := by rw [hs, hf]; simpa using h1
          simp [h1, h2, this]
theorem table1 : ∀ s, s < 10 → ∀ e, e < 16 → nextN s e ≤ 9 ∧ (waitsN (nextN s e) → starts (actsN s e) = true ∨ waitsN s) := by decide
theorem table2 : ∀ s, s < 10 → (waitsN (nextN s 4) → starts (actsN s 4) = true ∨ ¬ waitsN s) ∧ (waitsN (nextN s 5) → starts (actsN s 5) = true ∨ ¬ waitsN s) := by decide
theorem next_le {s : Nat} (hs : s ≤ 9) (e : Int) : 0 ≤ nextI s e ∧ nextI s e ≤ 9 := by
  by_cases h : 0 ≤ (s : Int) ∧ (s : Int) ≤ 9 ∧ 0 ≤ e ∧ e < 16
  · unfold nextI
    rw [if_pos h]
    have := (table1 s (by omega) e.toNat (by omega)).1
    rw [Int.toNat_natCast]
    omega
  · rw [nextI_out h]; omega
theorem rest_fix (m : M) : (rest m).tries = m.tries ∧ (rest m).timeout = m.timeout ∧ (rest m).state = m.state ∧ (rest m).count = m.count ∧ (rest m).left = if waitsN m.state then m.left else 0 := by
  unfold rest; split <;> simp_all
/-- an event keeps it right -/
theorem ok_does {m : M} (t1 : 1 ≤ m.tries) (t2 : m.tries ≤ 1000) (o1 : 1 ≤ m.timeout) (o2 : m.timeout ≤ 1000) (hs : m.state ≤ 9) (hc : m.count ≤ m.tries) (hl : m.left ≤ m.timeout) (e : Int)
    (hr : waitsN (nextI m.state e).toNat → starts (actsI m.state e) = true ∨ 0 < m.left) : Ok (doesM m e) := by
  obtain ⟨n0, n9⟩ := next_le hs e
  obtain ⟨a1, a2, a3, a4, a5⟩ := fold_fix (actsI m.state e) { m with state := (nextI m.state e).toNat }
  obtain ⟨b1, b2, b3, b4, b5⟩ := rest_fix ((actsI m.state e).foldl actM { m with state := (nextI m.state e).toNat })
  simp only at a1 a2 a3 a4 a5
  unfold doesM
  refine ⟨by rw [b1, a1]; exact t1, by rw [b1, a1]; exact t2, by rw [b2, a2]; exact o1, by rw [b2, a2]; exact o2, by rw [b3, a3]; omega, by rw [b4, b1, a1]; exact a4 hc, ?_, ?_⟩
  · rw [b5, b2, a2, a5]
    split <;> (try split) <;> omega
  · rw [b5, b3, a3, a5]
    by_cases hw : waitsN (nextI m.state e).toNat
    · rw [if_pos hw]
      rcases hr hw with h | h
      · rw [if_pos h]; exact ⟨fun _ => hw, fun _ => by omega⟩
      · refine ⟨fun _ => hw, fun _ => ?_⟩
        split <;> omega
    · rw [if_neg hw]; exact ⟨fun h => by omega, fun h => (hw h).elim⟩
theorem Ok.does {m : M} (h : Ok m) (e : Int) : Ok (doesM m e) := by
  refine ok_does h.t1 h.t2 h.o1 h.o2 h.s h.c h.l e fun hw => ?_
  by_cases hi : 0 ≤ (m.state : Int) ∧ (m.state : Int) ≤ 9 ∧ 0 ≤ e ∧ e < 16
  · unfold actsI; unfold nextI at hw
    rw [if_pos hi] at hw ⊢
    simp only [Int.toNat_natCast] at hw ⊢
    rcases (table1 m.state (by omega) e.toNat (by omega)).2 hw with h1 | h1
    · exact .inl h1
    · exact .inr (h.run.2 h1)
  · rw [nextI_out hi] at hw
    simp only [Int.toNat_natCast] at hw
    exact .inr (h.run.2 hw)
theorem Ok.do {m : M} (h : Ok m) (e : Int) : Ok (doM m e) := by
  unfold doM; split
  · exact h
  · exact h.does e
theorem Ok.tick {m : M} (h : Ok m) : Ok (tickM m) := by
  unfold tickM
  split
  · exact h
  · split
    · rename_i h0 h1
      have hw : waitsN m.state := h.run.1 (by omega)
      refine ok_does (m := { m with left := 0 }) h.t1 h.t2 h.o1 h.o2 h.s h.c (Nat.zero_le _) _ fun hn => .inl ?_
      have hs := h.s
      have ht := table2 m.state (by omega)
      unfold tickE at hn ⊢
      by_cases hc : 0 < m.count
      · rw [if_pos hc] at hn ⊢
        rw [show ((4 : Int)) = ((4 : Nat) : Int) from rfl, nextI_in hs (by omega)] at hn
        rw [show ((4 : Int)) = ((4 : Nat) : Int) from rfl, actsI_in hs (by omega)]
        rw [Int.toNat_natCast] at hn
        rcases ht.1 hn with h2 | h2
        · exact h2
        · exact (h2 hw).elim
      · rw [if_neg hc] at hn ⊢
        rw [show ((5 : Int)) = ((5 : Nat) : Int) from rfl, nextI_in hs (by omega)] at hn
        rw [show ((5 : Int)) = ((5 : Nat) : Int) from rfl, actsI_in hs (by omega)]
        rw [Int.toNat_natCast] at hn
        rcases ht.2 hn with h2 | h2
        · exact h2
        · exact (h2 hw).elim
    · have hl := h.l
      have hr := h.run
      rename_i h0 h1
      exact ⟨h.t1, h.t2, h.o1, h.o2, h.s, h.c, by simp only; omega, by simp only; rw [← hr]; omega⟩
/-- what it does at an event that there is not -/
theorem does_out {m : M} (h : Ok m) {e : Int} (he : e < 0 ∨ 15 < e) : actsI m.state e = [] ∧ doesM m e = m := by
  have h1 := actsI_out (s := m.state) (e := e) (by omega)
  have h2 := nextI_out (s := m.state) (e := e) (by omega)
  refine ⟨h1, ?_⟩
  unfold doesM
  rw [h1, h2]
  simp only [List.foldl_nil, Int.toNat_natCast]
  have hr := h.run
  unfold rest
  split
  · rfl
  · rename_i hw
    have : m.left = 0 := by
      by_cases h0 : 0 < m.left
      · exact (hw (hr.1 h0)).elim
      · omega
    cases m
    simp_all
end Go.Proofs.Ytjcigaonadkhkaa
