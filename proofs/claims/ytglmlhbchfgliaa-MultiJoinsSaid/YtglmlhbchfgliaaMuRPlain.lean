/-
  What the reference's joiner does is what the program's does: plainly. No conditions.
-/
import Derived.Test.YtglmlhbchfgliaaMuRRun
namespace Go.Proofs.Ytglmlhbchfgliaa
open Go.RowKit Go.Maps
/-- a number that is passed by is nearly a round ahead -/
theorem onR_prev {R base n k : Nat} (hb : base < R) (hn : n < R) (hk : onR R base n < k) (hkR : k ≤ R) : onR R ((base + k) % R) n = onR R base n + R - k := by
  have h0 := onR_lt (R := R) (base := base) (n := n) (by omega)
  have h1 := onR_cases hb hn
  have h2 := mod_cases (R := R) (a := base + k) (by omega)
  have h3 := onR_cases (R := R) (base := (base + k) % R) (n := n) (Nat.mod_lt _ (by omega)) hn
  omega
theorem rpass_eq {s : JS} (h : Ok s) {m : Nat} (hm : m ≤ rgN s.short / 2) : rpassP s ((s.next + m) % rgN s.short) = passP s m := by
  have hR := rgN_even s.short
  unfold rpassP passP
  congr 1
  refine List.filter_congr (fun p hp => ?_)
  have h1 := h.ahead p hp
  have h2 := h.num p hp
  unfold rkeepP keepP
  rw [aheadI_of_nonneg h1]
  rw [aheadI_nonneg] at h1
  by_cases hd : onR (rgN s.short) s.next p.1 < m
  · have h3 := onR_prev h.next h2 hd (by omega)
    rw [decide_eq_false (by rw [aheadI_nonneg]; omega), decide_eq_false (by omega)]
  · have h3 := onR_next h.next h2 (k := m) (by omega)
    rw [decide_eq_true (by rw [aheadI_nonneg]; omega), decide_eq_true (by omega)]
theorem rrun_anew : ∀ {l : List Pc} {j an : Nat} {acc : List UInt8}, 0 < an → rrunF j an acc l = if l.any (·.last) then some (an, none) else none
  | [], _, _, _, _ => rfl
  | p :: r, j, an, acc, h => by
    rw [rrunF, if_neg (show ¬ (0 < j ∧ p.first = true ∧ an = 0) by omega), if_pos h, rrun_anew h, List.any_cons]
    cases p.last
    · simp
    · simp
/-- a datagram that is too long is none -/
def fitP (most : Nat) (x : Nat × Option (List UInt8)) : Nat × Option (List UInt8) := (x.1, match x.2 with | some d => if d.length ≤ most then some d else none | none => none)
theorem rrun_join {most : Nat} : ∀ {l : List Pc} {i : Nat} {acc : List UInt8}, joinF most i acc l = (rrunF i 0 acc l).map (fitP most)
  | [], _, _ => rfl
  | p :: r, i, acc => by
    rw [joinF, rrunF]
    by_cases h : 0 < i ∧ p.first = true
    · rw [if_pos h, if_pos (show 0 < i ∧ p.first = true ∧ 0 = 0 from ⟨h.1, h.2, rfl⟩), if_pos h.1, rrun_anew h.1, List.any_cons]
      cases p.last
      · simp only [Bool.false_or, Bool.false_eq_true, if_false]
        split <;> rfl
      · rfl
    · rw [if_neg h, if_neg (show ¬ (0 < i ∧ p.first = true ∧ 0 = 0) from fun e => h ⟨e.1, e.2.1⟩), if_neg (Nat.lt_irrefl 0)]
      cases p.last
      · simp only [Bool.false_eq_true, if_false]
        exact rrun_join
      · rfl
section
variable {s : JS} {p : Pc} {r : List Pc}
theorem step_odd (hL : runP s = p :: r) (hf : p.first = false) : stepP s = some (passP s 1, []) := by
  unfold stepP
  rw [hL, joinP_no hf]
  simp [oddP, hf]
theorem step_join (hL : runP s = p :: r) (hf : p.first = true) {x : Nat × Option (List UInt8)} (hX : rrunF 0 0 [] (p :: r) = some x) : stepP s = some (passP s x.1, joinD (some (fitP s.most x))) ∧ 1 ≤ x.1 ∧ x.1 ≤ (p :: r).length := by
  have hj : joinP s.most (p :: r) = some (fitP s.most x) := by rw [joinP_cons hf, rrun_join, hX]; rfl
  obtain ⟨h1, h2, _⟩ := joinP_pos (k := (fitP s.most x).1) (d := (fitP s.most x).2) hj
  refine ⟨?_, h1, h2⟩
  unfold stepP
  rw [hL, hj]
  simp [joinS, fitP]
theorem step_rest (hL : runP s = [] ∨ (runP s = p :: r ∧ p.first = true ∧ rrunF 0 0 [] (p :: r) = none)) : stepP s = if goneP s (runP s).length then some ({ passP s ((runP s).length + 1) with lost := s.lost + 1 }, [])
    else if 64 < s.held.length then some (passP s (leastP s + 1).toNat, []) else none := by
  unfold stepP
  rcases hL with hL | ⟨hL, hf, hX⟩
  · rw [hL]; simp [joinP, oddP]
  · have hj : joinP s.most (p :: r) = none := by rw [joinP_cons hf, rrun_join, hX]; rfl
    have ho : oddP (p :: r) = false := by simp [oddP, hf]
    rw [hL, hj, ho]; simp
end
/-- the datagram that a step tells -/
def DatR (w : World) (B : Nat) (v : Value) (d : List (List UInt8)) : Prop := (d = [] ∧ v = .slice none 0 0) ∨ ∃ (x : List UInt8) (g c : Nat), d = [x] ∧ v = .slice (some ⟨g, 0, none⟩) x.length c ∧ w.ownsRow B 5 1 v x.length (x.map bv)
/-- what a step tells -/
def StepE (w w' : World) (B b : Nat) (vl vh : Value) (s : JS) (e : Ending) : Prop := match stepP s with
  | none => e = .returned (.tuple #[.slice none 0 0, .bool false]) ∧ RJ w' B b vl vh s ∧ ButOf (fun k => k = b) w w'
  | some (t, d) => ∃ v vh', e = .returned (.tuple #[v, .bool true]) ∧ DatR w' w.heap.size v d ∧ RJ w' B b vl vh' t ∧ (∀ k, vh'.ownBlock = some k → w.heap.size ≤ k) ∧ ButOf (fun k => k = b) w w'
theorem StepE.no {w w' : World} {B b : Nat} {vl vh : Value} {s : JS} {e : Ending} (hst : stepP s = none) (he : e = .returned (.tuple #[.slice none 0 0, .bool false])) (hJ : RJ w' B b vl vh s) (hb : ButOf (fun k => k = b) w w') : StepE w w' B b vl vh s e := by
  unfold StepE; rw [hst]; exact ⟨he, hJ, hb⟩
theorem StepE.yes {w w' : World} {B b : Nat} {vl vh v vh' : Value} {s t : JS} {d : List (List UInt8)} {e : Ending} (hst : stepP s = some (t, d)) (he : e = .returned (.tuple #[v, .bool true])) (hD : DatR w' w.heap.size v d) (hJ : RJ w' B b vl vh' t)
    (hn : ∀ k, vh'.ownBlock = some k → w.heap.size ≤ k) (hb : ButOf (fun k => k = b) w w') : StepE w w' B b vl vh s e := by
  unfold StepE; rw [hst]; exact ⟨v, vh', he, hD, hJ, hn, hb⟩
section
variable {w : World} {B b : Nat} {vl vh : Value} {s : JS}
theorem rrun_none (h : RJ w B b vl vh s) (hk : Ok s) (hX : rrunF 0 0 [] (runP s) = none) :
    Calls Try.prog 45 #[.pointer (some ⟨b, 0, none⟩)] w fun e w' => e = .returned (.tuple #[.slice none 0 0, .int .i64 0, .int .i64 0]) ∧ Below w.heap.size w w' := by
  refine (rrun_any h hk.next hk.few hk.mild).mono ?_
  rintro e w' ⟨v, a, e', rfl, hR, hb⟩
  rw [hX] at hR
  obtain ⟨rfl, rfl, rfl⟩ := hR
  exact ⟨rfl, hb⟩
theorem rrun_new (h : RJ w B b vl vh s) (hk : Ok s) {k : Nat} (hX : rrunF 0 0 [] (runP s) = some (k, none)) :
    Calls Try.prog 45 #[.pointer (some ⟨b, 0, none⟩)] w fun e w' => e = .returned (.tuple #[.slice none 0 0, .int .i64 (k : Nat), .int .i64 0]) ∧ Below w.heap.size w w' := by
  refine (rrun_any h hk.next hk.few hk.mild).mono ?_
  rintro e w' ⟨v, a, e', rfl, hR, hb⟩
  rw [hX] at hR
  obtain ⟨rfl, rfl, rfl⟩ := hR
  exact ⟨rfl, hb⟩
theorem rrun_dat (h : RJ w B b vl vh s) (hk : Ok s) {k : Nat} {d : List UInt8} (hX : rrunF 0 0 [] (runP s) = some (k, some d)) :
    Calls Try.prog 45 #[.pointer (some ⟨b, 0, none⟩)] w fun e w' => ∃ g c, e = .returned (.tuple #[.slice (some ⟨g, 0, none⟩) d.length c, .int .i64 0, .int .i64 (k : Nat)]) ∧ w'.ownsRow w.heap.size 5 1 (.slice (some ⟨g, 0, none⟩) d.length c) d.length (d.map bv) ∧ Below w.heap.size w w' := by
  refine (rrun_any h hk.next hk.few hk.mild).mono ?_
  rintro e w' ⟨v, a, e', rfl, hR, hb⟩
  rw [hX] at hR
  obtain ⟨⟨g, c, rfl⟩, h1, rfl, rfl⟩ := hR
  exact ⟨g, c, rfl, h1, hb⟩
theorem RJ.setLost (h : RJ w B b vl vh s) : RJ (w.setCell ⟨b, 5, none⟩ (.int .i64 (wrap64 ((s.lost + 1 : Nat) : Int)))) B b vl vh { s with lost := s.lost + 1 } ∧ ButOf (fun k => k = b) w (w.setCell ⟨b, 5, none⟩ (.int .i64 (wrap64 ((s.lost + 1 : Nat) : Int)))) := by
  have hB : ButOf (fun k => k = b) w (w.setCell ⟨b, 5, none⟩ (.int .i64 (wrap64 ((s.lost + 1 : Nat) : Int)))) := (ButOf.refl (fun k => k = b) w).set _ (Or.inl rfl)
  have hne : ∀ {E n sz B'' : Nat} {v : Value} {ys : List Value}, w.ownsRow B'' E sz v n ys → E ≠ 63 → ∀ k, v.ownBlock = some k → ¬ k = b := fun hv hE k hk e => own_blk_ne hv h.blk hE (e ▸ hk)
  obtain ⟨vs, e1, e2⟩ := h.held
  refine ⟨⟨h.blk.set 5 _, own_but h.row hB (hne h.row (by decide)), ⟨vs, own_but e1 hB (hne e1 (by decide)), e2.but hB (fun x hx => ?_)⟩, h.base⟩, hB⟩
  obtain ⟨l', hl'⟩ := e2.mem x hx
  exact hne hl' (by decide)
end
end Go.Proofs.Ytglmlhbchfgliaa
