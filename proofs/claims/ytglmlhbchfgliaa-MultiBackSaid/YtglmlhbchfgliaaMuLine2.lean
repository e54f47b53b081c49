/-
  A fragment that comes on a joiner's one link, in order: all steps, plainly. No conditions.
-/
import Derived.Test.YtglmlhbchfgliaaMuLine
namespace Go.Proofs.Ytglmlhbchfgliaa
open Go.RowKit Go.Maps
theorem filter_row0 {R n k : Nat} {ps : List Pc} (hn : n < R) (h : ps.length ≤ R / 2) : (rowH R n ps).filter (fun p => keepP R n k p.1) = rowH R ((n + k) % R) (ps.drop k) := by
  have := filter_rowH (k := k) hn (ps := ps) (i := 0) (by omega)
  rw [show (n + 0) % R = n from Nat.mod_eq_of_lt hn, Nat.zero_max, Nat.sub_zero] at this
  exact this
def catB (ps : List Pc) : List UInt8 := ps.flatMap (·.b)
theorem joinF_none {most : Nat} : ∀ {ps : List Pc} {i : Nat} {acc : List UInt8}, (∀ p ∈ ps, p.last = false) → joinF most i acc ps = none
  | [], _, _, _ => rfl
  | p :: r, i, acc, h => by
    have hp := h p List.mem_cons_self
    have hany : (p :: r).any (·.last) = false := by
      rw [List.any_eq_false]
      intro x hx
      simp [h x hx]
    rw [joinF]
    split
    · rw [hany]; rfl
    · rw [hp]
      exact joinF_none (fun x hx => h x (List.mem_cons_of_mem _ hx))
theorem joinF_end {most : Nat} {q : Pc} (hq : q.last = true) : ∀ {ps : List Pc} {i : Nat} {acc : List UInt8}, (∀ p ∈ ps, p.last = false) → (∀ k p, (ps ++ [q])[k]? = some p → 0 < i + k → p.first = false) → (acc ++ catB (ps ++ [q])).length ≤ most →
    joinF most i acc (ps ++ [q]) = some (i + ps.length + 1, some (acc ++ catB (ps ++ [q])))
  | [], i, acc, _, h2, h3 => by
    have hc : catB ([] ++ [q]) = q.b := by simp [catB]
    rw [hc] at h3 ⊢
    rw [List.nil_append, joinF, if_neg (fun e => by have := h2 0 q rfl (by omega); rw [e.2] at this; cases this), if_pos hq, if_pos h3]
    rfl
  | p :: r, i, acc, h1, h2, h3 => by
    have hp := h1 p List.mem_cons_self
    have hc : acc ++ catB (p :: r ++ [q]) = (acc ++ p.b) ++ catB (r ++ [q]) := by simp [catB]
    rw [hc] at h3 ⊢
    rw [List.cons_append, joinF, if_neg (fun e => by have := h2 0 p rfl (by omega); rw [e.2] at this; cases this), if_neg (by simp [hp])]
    rw [joinF_end hq (fun x hx => h1 x (List.mem_cons_of_mem _ hx)) (fun k x hk hi => h2 (k + 1) x (by simpa using hk) (by omega)) h3]
    simp only [List.length_cons]
    congr 2
    omega
theorem aheadI_back {R q : Nat} (hq : q < R) (h4 : 4 ≤ R) : aheadI R ((q + 1) % R) q = -1 := by
  have h1 := mod_cases (R := R) (a := q + 1) (by omega)
  have h2 := onR_cases (R := R) (base := (q + 1) % R) (n := q) (Nat.mod_lt _ (by omega)) hq
  rw [aheadI_eq, if_pos (by omega)]
theorem gone_one {short : Bool} {most next lost q : Nat} {held : List (Nat × Pc)} (n : Nat) : goneP ⟨short, most, next, [(q : Int)], held, lost⟩ n = decide (1 ≤ aheadI (rgN short) ((next + n) % rgN short) q) := by
  unfold goneP
  simp [pastP]
theorem rgN_big (short : Bool) : 4096 ≤ rgN short := (rgN_even short).2
section
variable {short : Bool} {most a q lost : Nat}
theorem idle_none (hq : q < rgN short) : stepP ⟨short, most, (q + 1) % rgN short, [(q : Int)], [], lost⟩ = none := by
  have hR := rgN_big short
  refine step_none rfl ?_ (Nat.zero_le _)
  rw [gone_one, Nat.add_zero, Nat.mod_mod, aheadI_back hq (by omega)]
  rfl
theorem run_row {ps : List Pc} {y : List Int} (ha : a < rgN short) (hl : ps.length ≤ 64) : runP ⟨short, most, a, y, rowH (rgN short) a ps, lost⟩ = ps := by
  have hR := rgN_big short
  unfold runP
  refine runF_row ha (fun k hk => getP_rowH ha (by omega) (by omega)) ?_ (by simp [rowH_length])
  rw [getP_rowH ha (by omega) (by omega)]
  simp
/-- the last fragment of a row that begins -/
theorem line_end {ps : List Pc} {p : Pc} (ha : a < rgN short) (hl : ps.length ≤ 60) (h1 : ∀ x ∈ ps, x.last = false) (h2 : ∀ k x, (ps ++ [p])[k]? = some x → x.first = decide (k = 0)) (hp : p.last = true) (hm : (catB (ps ++ [p])).length ≤ most) :
    Goes ⟨short, most, a, [(((a + ps.length) % rgN short : Nat) : Int)], rowH (rgN short) a (ps ++ [p]), lost⟩ [catB (ps ++ [p])] ⟨short, most, (a + ps.length + 1) % rgN short, [(((a + ps.length) % rgN short : Nat) : Int)], [], lost⟩ := by
  have hR := rgN_big short
  have hev := (rgN_even short).1
  have hj : joinP most (ps ++ [p]) = some (ps.length + 1, some (catB (ps ++ [p]))) := by
    have h := joinF_end (most := most) hp (ps := ps) (i := 0) (acc := []) h1 (fun k x hk hi => by rw [h2 k x hk]; simp; omega) (by simpa using hm)
    cases hps : ps ++ [p] with
    | nil => simp at hps
    | cons x r =>
      rw [hps] at h h2
      rw [joinP_cons (by rw [h2 0 x rfl]; rfl), h]
      simp
  have hrun := run_row (short := short) (most := most) (lost := lost) (ps := ps ++ [p]) (y := [(((a + ps.length) % rgN short : Nat) : Int)]) ha (by simp; omega)
  have hst : stepP ⟨short, most, a, [(((a + ps.length) % rgN short : Nat) : Int)], rowH (rgN short) a (ps ++ [p]), lost⟩ = some (⟨short, most, (a + ps.length + 1) % rgN short, [(((a + ps.length) % rgN short : Nat) : Int)], [], lost⟩, [catB (ps ++ [p])]) := by
    unfold stepP
    rw [hrun, hj]
    simp only [Option.isSome_some, if_true, joinS, joinD]
    have hf := filter_row0 (R := rgN short) (n := a) (k := ps.length + 1) (ps := ps ++ [p]) ha (by simp; omega)
    unfold passP
    simp only [hf]
    rw [List.drop_of_length_le (by simp)]
    rfl
  refine Goes.go hst (Goes.stop ?_)
  have := idle_none (short := short) (most := most) (lost := lost) (q := (a + ps.length) % rgN short) (Nat.mod_lt _ (by omega))
  rwa [Nat.mod_add_mod] at this
/-- a fragment more of a row that begins, and has no end yet -/
theorem line_more {ps : List Pc} {p : Pc} (ha : a < rgN short) (hl : ps.length ≤ 60) (h1 : ∀ x ∈ ps ++ [p], x.last = false) (h2 : ∀ k x, (ps ++ [p])[k]? = some x → x.first = decide (k = 0)) :
    Goes ⟨short, most, a, [(((a + ps.length) % rgN short : Nat) : Int)], rowH (rgN short) a (ps ++ [p]), lost⟩ [] ⟨short, most, a, [(((a + ps.length) % rgN short : Nat) : Int)], rowH (rgN short) a (ps ++ [p]), lost⟩ := by
  have hR := rgN_big short
  refine Goes.stop ?_
  have hrun := run_row (short := short) (most := most) (lost := lost) (ps := ps ++ [p]) (y := [(((a + ps.length) % rgN short : Nat) : Int)]) ha (by simp; omega)
  unfold stepP
  rw [hrun]
  have hj : joinP most (ps ++ [p]) = none := by
    cases hps : ps ++ [p] with
    | nil => simp at hps
    | cons x r =>
      rw [hps] at h1 h2
      rw [joinP_cons (by rw [h2 0 x rfl]; rfl), joinF_none h1]
  have ho : oddP (ps ++ [p]) = false := by
    cases hps : ps ++ [p] with
    | nil => rfl
    | cons x r =>
      rw [hps] at h2
      show (!x.first) = false
      rw [h2 0 x rfl]; rfl
  have hg : goneP ⟨short, most, a, [(((a + ps.length) % rgN short : Nat) : Int)], rowH (rgN short) a (ps ++ [p]), lost⟩ (ps ++ [p]).length = false := by
    rw [gone_one]
    have := aheadI_back (R := rgN short) (q := (a + ps.length) % rgN short) (Nat.mod_lt _ (by omega)) (by omega)
    rw [Nat.mod_add_mod] at this
    rw [List.length_append, List.length_singleton, ← Nat.add_assoc, this]
    rfl
  rw [hj, ho, hg]
  simp only [Option.isSome_none, Bool.false_eq_true, if_false, rowH_length, List.length_append, List.length_singleton]
  rw [if_neg (by omega)]
/-- a fragment alone that does not begin -/
theorem line_odd {p : Pc} (ha : a < rgN short) (hp : p.first = false) :
    Goes ⟨short, most, a, [((a : Nat) : Int)], [(a, p)], lost⟩ [] ⟨short, most, (a + 1) % rgN short, [((a : Nat) : Int)], [], lost⟩ := by
  have hR := rgN_big short
  have hrun : runP ⟨short, most, a, [((a : Nat) : Int)], [(a, p)], lost⟩ = [p] := run_row (ps := [p]) ha (by simp)
  have hst : stepP ⟨short, most, a, [((a : Nat) : Int)], [(a, p)], lost⟩ = some (⟨short, most, (a + 1) % rgN short, [((a : Nat) : Int)], [], lost⟩, []) := by
    unfold stepP
    rw [hrun, joinP_no hp]
    simp only [Option.isSome_none, Bool.false_eq_true, if_false, oddP, hp, Bool.not_false, if_true]
    have hf := filter_row0 (R := rgN short) (n := a) (k := 1) (ps := [p]) ha (by simp; omega)
    unfold passP
    simp only [rowH] at hf
    simp only [hf]
    rfl
  exact Goes.go hst (Goes.stop (idle_none ha))
end
end Go.Proofs.Ytglmlhbchfgliaa
