/-
  The plain laws of a joiner: what each step keeps, that steps come to an end. No conditions.
-/
import Derived.Test.YtglmlhbchfgliaaMuStep
namespace Go.Proofs.Ytglmlhbchfgliaa
open Go.RowKit Go.Maps
/-- what holds of each joiner -/
structure Ok (s : JS) : Prop where
  ahead : ∀ p ∈ s.held, 0 ≤ aheadI (rgN s.short) s.next p.1
  mild : Mild s
  links : 0 < s.last.length ∧ s.last.length ≤ 16
  next : s.next < rgN s.short
  few : s.held.length ≤ 100
  num : ∀ p ∈ s.held, p.1 < rgN s.short
  lst : ∀ x ∈ s.last, -1 ≤ x ∧ x < (rgN s.short : Int)
/-- how far a number is on, round the ring -/
def onR (R base n : Nat) : Nat := (n + R - base) % R
theorem aheadI_eq (R base n : Nat) : aheadI R base n = if R / 2 ≤ onR R base n then -1 else (onR R base n : Int) := rfl
theorem onR_lt {R base n : Nat} (hR : 0 < R) : onR R base n < R := Nat.mod_lt _ hR
theorem onR_self {R n : Nat} (hn : n < R) : onR R n n = 0 := by unfold onR; rw [show n + R - n = R by omega, Nat.mod_self]
theorem onR_cases {R base n : Nat} (hb : base < R) (hn : n < R) : (base ≤ n ∧ onR R base n = n - base) ∨ (n < base ∧ onR R base n = n + R - base) := by
  unfold onR
  by_cases h : base ≤ n
  · left; refine ⟨h, ?_⟩
    rw [show n + R - base = n - base + R by omega, Nat.add_mod_right, Nat.mod_eq_of_lt (by omega)]
  · right; exact ⟨by omega, Nat.mod_eq_of_lt (by omega)⟩
theorem mod_cases {R a : Nat} (h : a < 2 * R) : (a < R ∧ a % R = a) ∨ (R ≤ a ∧ a % R = a - R) := by
  by_cases h1 : a < R
  · exact Or.inl ⟨h1, Nat.mod_eq_of_lt h1⟩
  · right; exact ⟨by omega, by rw [Nat.mod_eq_sub_mod (by omega), Nat.mod_eq_of_lt (by omega)]⟩
/-- the next one goes on -/
theorem onR_next {R base n k : Nat} (hb : base < R) (hn : n < R) (hk : k ≤ onR R base n) : onR R ((base + k) % R) n = onR R base n - k := by
  have h0 := onR_lt (R := R) (base := base) (n := n) (by omega)
  have h1 := onR_cases hb hn
  have h2 := mod_cases (R := R) (a := base + k) (by omega)
  have h3 := onR_cases (R := R) (base := (base + k) % R) (n := n) (Nat.mod_lt _ (by omega)) hn
  omega
theorem aheadI_nonneg {R base n : Nat} : 0 ≤ aheadI R base n ↔ onR R base n < R / 2 := by
  rw [aheadI_eq]; split <;> omega
theorem aheadI_of_nonneg {R base n : Nat} (h : 0 ≤ aheadI R base n) : aheadI R base n = (onR R base n : Int) := by
  rw [aheadI_nonneg] at h; rw [aheadI_eq, if_neg (by omega)]
theorem rgN_even (short : Bool) : rgN short / 2 * 2 = rgN short ∧ 4096 ≤ rgN short := by cases short <;> decide
theorem Ok.pass {s : JS} (h : Ok s) (n : Nat) : Ok (passP s n) := by
  have hm : ∀ p ∈ (passP s n).held, p ∈ s.held ∧ ¬ aheadI (rgN s.short) s.next p.1 < (n : Int) := fun p hp => by
    have := List.mem_filter.1 hp
    exact ⟨this.1, by simpa [keepP] using this.2⟩
  refine ⟨fun p hp => ?_, h.mild.pass n, h.links, Nat.mod_lt _ (rgN_pos _), Nat.le_trans (List.length_filter_le ..) h.few, fun p hp => h.num p (hm p hp).1, h.lst⟩
  obtain ⟨h1, h2⟩ := hm p hp
  have h3 := h.ahead p h1
  rw [aheadI_of_nonneg h3] at h2
  rw [aheadI_nonneg] at h3
  show 0 ≤ aheadI (rgN s.short) ((s.next + n) % rgN s.short) p.1
  rw [aheadI_nonneg, onR_next h.next (h.num p h1) (by omega)]
  omega
/-- what is passed by is held no more -/
theorem pass_less {s : JS} {n m : Nat} {p : Pc} (hp : (m, p) ∈ s.held) (hn : aheadI (rgN s.short) s.next m < (n : Int)) : (passP s n).held.length < s.held.length := by
  show (s.held.filter _).length < _
  rw [List.length_filter_lt_length_iff_exists]
  exact ⟨_, hp, by simp [keepP, hn]⟩
theorem pass_le {s : JS} {n : Nat} : (passP s n).held.length ≤ s.held.length := List.length_filter_le ..
/-- the measure of the steps to come -/
def measP (s : JS) : Nat := s.held.length * rgN s.short + onR (rgN s.short) s.next (s.last.headD 0).toNat
theorem measP_less {s t : JS} (hs : t.short = s.short) (h : t.held.length < s.held.length) : measP t < measP s := by
  have h1 := onR_lt (R := rgN s.short) (base := t.next) (n := (t.last.headD 0).toNat) (rgN_pos _)
  unfold measP
  rw [hs]
  have : (t.held.length + 1) * rgN s.short ≤ s.held.length * rgN s.short := Nat.mul_le_mul_right _ h
  rw [Nat.add_mul] at this
  omega
theorem joinF_pos {most : Nat} : ∀ {l : List Pc} {i : Nat} {acc : List UInt8} {k : Nat} {d : Option (List UInt8)}, joinF most i acc l = some (k, d) → (i = 0 → 1 ≤ k) ∧ i ≤ k ∧ k ≤ i + l.length
  | [], _, _, _, _, h => by simp [joinF] at h
  | p :: r, i, acc, k, d, h => by
    rw [joinF] at h
    split at h
    · rename_i h0
      split at h
      · simp only [Option.some.injEq, Prod.mk.injEq] at h
        obtain ⟨rfl, _⟩ := h
        exact ⟨fun e => by omega, Nat.le_refl _, by omega⟩
      · cases h
    · split at h
      · simp only [Option.some.injEq, Prod.mk.injEq] at h
        obtain ⟨rfl, _⟩ := h
        exact ⟨fun _ => by omega, by omega, by simp⟩
      · have := joinF_pos h
        simp only [List.length_cons]
        omega
theorem joinP_pos {most : Nat} {l : List Pc} {k : Nat} {d : Option (List UInt8)} (h : joinP most l = some (k, d)) : 1 ≤ k ∧ k ≤ l.length ∧ l ≠ [] := by
  cases l with
  | nil => simp [joinP] at h
  | cons p r =>
    rw [joinP] at h
    split at h
    · have := joinF_pos h
      exact ⟨this.1 rfl, by omega, by simp⟩
    · cases h
theorem runP_some {s : JS} (h : runP s ≠ []) : ∃ p, (s.next, p) ∈ s.held := by
  cases hg : getP s.held s.next with
  | none => exact absurd (runF_none hg) h
  | some p => exact ⟨p, getP_mem hg⟩
theorem joinD_len (x : Option (Nat × Option (List UInt8))) : (joinD x).length ≤ 1 := by
  unfold joinD; split <;> simp
/-- a step -/
theorem step_ok {s t : JS} {d : List (List UInt8)} (h : Ok s) (hst : stepP s = some (t, d)) : Ok t ∧ measP t < measP s ∧ t.held.length + d.length ≤ s.held.length ∧ t.last = s.last ∧ t.short = s.short ∧ t.most = s.most := by
  have h0 : ∀ p, (s.next, p) ∈ s.held → ∀ k : Nat, 1 ≤ k → (passP s k).held.length < s.held.length := fun p hp k hk => pass_less hp (by
    rw [aheadI_of_nonneg (h.ahead _ hp), onR_self h.next]; omega)
  unfold stepP at hst
  split at hst
  · rename_i hj
    cases hjp : joinP s.most (runP s) with
    | none => rw [hjp] at hj; cases hj
    | some kd =>
      obtain ⟨k, d'⟩ := kd
      rw [hjp] at hst
      simp only [Option.some.injEq, Prod.mk.injEq] at hst
      obtain ⟨rfl, rfl⟩ := hst
      obtain ⟨h1, h2, h3⟩ := joinP_pos hjp
      obtain ⟨p, hp⟩ := runP_some h3
      have h4 := h0 p hp k h1
      have h5 := joinD_len (some (k, d'))
      exact ⟨h.pass k, measP_less (s := s) (t := passP s k) rfl h4, by show (passP s k).held.length + _ ≤ _; omega, rfl, rfl, rfl⟩
  · split at hst
    · rename_i ho
      simp only [Option.some.injEq, Prod.mk.injEq] at hst
      obtain ⟨rfl, rfl⟩ := hst
      have hne : runP s ≠ [] := fun e => by rw [e] at ho; cases ho
      obtain ⟨p, hp⟩ := runP_some hne
      have h4 := h0 p hp 1 (Nat.le_refl _)
      exact ⟨h.pass 1, measP_less (s := s) (t := passP s 1) rfl h4, by simp; omega, rfl, rfl, rfl⟩
    · split at hst
      · rename_i hg
        simp only [Option.some.injEq, Prod.mk.injEq] at hst
        obtain ⟨rfl, rfl⟩ := hst
        refine ⟨?_, ?_, by simpa using pass_le, rfl, rfl, rfl⟩
        · have := h.pass ((runP s).length + 1)
          exact ⟨this.ahead, this.mild, this.links, this.next, this.few, this.num, this.lst⟩
        · have hle := pass_le (s := s) (n := (runP s).length + 1)
          by_cases hlt : (passP s ((runP s).length + 1)).held.length < s.held.length
          · exact measP_less (s := s) (t := { passP s ((runP s).length + 1) with lost := s.lost + 1 }) rfl hlt
          · have heq : (passP s ((runP s).length + 1)).held.length = s.held.length := by omega
            show (passP s ((runP s).length + 1)).held.length * rgN s.short + onR (rgN s.short) ((s.next + ((runP s).length + 1)) % rgN s.short) (s.last.headD 0).toNat < s.held.length * rgN s.short + onR (rgN s.short) s.next (s.last.headD 0).toNat
            rw [heq]
            unfold goneP at hg
            rw [List.all_eq_true] at hg
            have hlk := h.links
            have hmem : s.last.headD 0 ∈ s.last := by
              cases hl : s.last with
              | nil => rw [hl] at hlk; simp at hlk
              | cons x r => simp
            have h1 := hg _ hmem
            unfold pastP at h1
            simp only [Bool.and_eq_true, decide_eq_true_eq] at h1
            obtain ⟨h2, h3⟩ := h1
            have h4 := h.lst _ hmem
            have hn : (s.last.headD 0).toNat < rgN s.short := by omega
            generalize (s.last.headD 0).toNat = x at h3 hn
            have h5 : 0 ≤ aheadI (rgN s.short) ((s.next + (runP s).length) % rgN s.short) x := by omega
            rw [aheadI_of_nonneg h5] at h3
            rw [aheadI_nonneg] at h5
            have hfew := h.few
            have hrl : (runP s).length ≤ s.held.length := by
              have h1 := fun j (hj : j ≤ (runP s).length) (hr : j ≤ rgN s.short) => ring_pig (R := rgN s.short) (next := s.next) (held := s.held) (j := j) hr (fun i hi => runF_all h.next (by show i < (runP s).length; omega))
              have h2 := h1 (min (runP s).length 200) (Nat.min_le_left _ _) (by have := rgN_even s.short; omega)
              exact h1 _ (Nat.le_refl _) (by have := rgN_even s.short; omega)
            have hev := rgN_even s.short
            have hnx := h.next
            generalize rgN s.short = R at *
            generalize (runP s).length = k at *
            have c1 := onR_cases hnx hn
            have c2 := mod_cases (R := R) (a := s.next + k) (by omega)
            have c3 := mod_cases (R := R) (a := s.next + (k + 1)) (by omega)
            have c4 := onR_cases (R := R) (base := (s.next + k) % R) (n := x) (Nat.mod_lt _ (by omega)) hn
            have c5 := onR_cases (R := R) (base := (s.next + (k + 1)) % R) (n := x) (Nat.mod_lt _ (by omega)) hn
            omega
      · split at hst
        · rename_i h64
          simp only [Option.some.injEq, Prod.mk.injEq] at hst
          obtain ⟨rfl, rfl⟩ := hst
          have hl : (passP s (leastP s + 1).toNat).held.length < s.held.length := by
            rcases leastL_mem (rgN s.short) s.next (s.held.map (·.1)) with e | ⟨m, hm, e⟩
            · obtain ⟨p, hp⟩ := List.exists_mem_of_length_pos (l := s.held) (by omega)
              refine pass_less (m := p.1) (p := p.2) hp ?_
              have h1 := (leastL_le (rgN s.short) s.next (s.held.map (·.1))).2 p.1 (List.mem_map.2 ⟨p, hp, rfl⟩)
              have h2 := (aheadI_le (R := rgN s.short) (base := s.next) (n := p.1) (rgN_pos _)).2
              unfold leastP
              omega
            · obtain ⟨p, hp, rfl⟩ := List.mem_map.1 hm
              refine pass_less (m := p.1) (p := p.2) hp ?_
              have := h.ahead p hp
              unfold leastP
              omega
          exact ⟨h.pass _, measP_less (s := s) (t := passP s (leastP s + 1).toNat) rfl hl, by simp; omega, rfl, rfl, rfl⟩
        · cases hst
/-- all steps: what comes out, and the state behind -/
inductive Goes : JS → List (List UInt8) → JS → Prop
  | stop {s : JS} (h : stepP s = none) : Goes s [] s
  | go {s t u : JS} {d L : List (List UInt8)} (h : stepP s = some (t, d)) (k : Goes t L u) : Goes s (d ++ L) u
theorem Goes.one {s t u : JS} {L M : List (List UInt8)} (h : Goes s L t) (k : Goes s M u) : L = M ∧ t = u := by
  induction h generalizing M u with
  | stop h =>
    cases k with
    | stop _ => exact ⟨rfl, rfl⟩
    | go h2 _ => rw [h] at h2; cases h2
  | go h _ ih =>
    cases k with
    | stop h2 => rw [h] at h2; cases h2
    | go h2 k2 =>
      rw [h] at h2
      injection h2 with h2
      injection h2 with e1 e2
      subst e1; subst e2
      obtain ⟨e1, e2⟩ := ih k2
      exact ⟨by rw [e1], e2⟩
theorem Goes.ok {s t : JS} {L : List (List UInt8)} (h : Goes s L t) (hs : Ok s) : Ok t ∧ t.held.length ≤ 64 ∧ t.held.length + L.length ≤ s.held.length ∧ t.last = s.last ∧ t.short = s.short ∧ t.most = s.most := by
  induction h with
  | stop h =>
    refine ⟨hs, ?_, by simp, rfl, rfl, rfl⟩
    unfold stepP at h
    split at h
    · cases h
    · split at h
      · cases h
      · split at h
        · cases h
        · split at h
          · cases h
          · omega
  | go h _ ih =>
    obtain ⟨a1, _, a3, a4, a5, a6⟩ := step_ok hs h
    obtain ⟨b1, b2, b3, b4, b5, b6⟩ := ih a1
    exact ⟨b1, b2, by rw [List.length_append]; omega, b4.trans a4, b5.trans a5, b6.trans a6⟩
theorem Goes.all {s : JS} (hs : Ok s) : ∃ L t, Goes s L t := by
  generalize hm : measP s = m
  induction m using Nat.strongRecOn generalizing s with
  | ind m ih =>
    cases hst : stepP s with
    | none => exact ⟨_, _, Goes.stop hst⟩
    | some td =>
      obtain ⟨t, d⟩ := td
      obtain ⟨a1, a2, _⟩ := step_ok hs hst
      obtain ⟨L, u, hg⟩ := ih (measP t) (by omega) a1 rfl
      exact ⟨_, _, Goes.go hst hg⟩
end Go.Proofs.Ytglmlhbchfgliaa
