/-
  A link that says nothing: what a joiner of two links does, plainly. No conditions.
-/
import Derived.Test.YtglmlhbchfgliaaMuFrag
namespace Go.Proofs.Ytglmlhbchfgliaa
open Go.RowKit Go.Maps
/-- all steps, by computation -/
def goF : Nat → JS → Option (List (List UInt8) × JS)
  | 0, _ => none
  | f + 1, s => match stepP s with
    | none => some ([], s)
    | some (t, d) => match goF f t with
      | none => none
      | some (L, u) => some (d ++ L, u)
theorem goF_goes : ∀ {f : Nat} {s t : JS} {L : List (List UInt8)}, goF f s = some (L, t) → Goes s L t
  | 0, _, _, _, h => by cases h
  | f + 1, s, t, L, h => by
    rw [goF] at h
    cases hst : stepP s with
    | none =>
      rw [hst] at h
      simp only [Option.some.injEq, Prod.mk.injEq] at h
      obtain ⟨rfl, rfl⟩ := h
      exact Goes.stop hst
    | some td =>
      obtain ⟨u, d⟩ := td
      rw [hst] at h
      simp only at h
      cases hg : goF f u with
      | none => rw [hg] at h; cases h
      | some lt =>
        obtain ⟨L', t'⟩ := lt
        rw [hg] at h
        simp only [Option.some.injEq, Prod.mk.injEq] at h
        obtain ⟨rfl, rfl⟩ := h
        exact Goes.go hst (goF_goes hg)
def pcO (x : UInt8) : Pc := ⟨true, true, [x]⟩
def heldO (x : UInt8) (a k : Nat) : List (Nat × Pc) := (List.range' a k).map fun n => (n, pcO x)
/-- so many are held, the next one never came -/
def stU (x : UInt8) (k : Nat) : JS := ⟨false, 100, 0, [if k = 0 then -1 else (k : Int), -1], heldO x 1 k, 0⟩
/-- all up to this one are passed by -/
def stV (k : Nat) : JS := ⟨false, 100, k + 1, [(k : Int), -1], [], 0⟩
/-- the fragment of a number -/
def fragO (x : UInt8) (i : Nat) : List UInt8 := [192, 0, UInt8.ofNat (i / 256), UInt8.ofNat i, x]
theorem fragO_head {x : UInt8} {i : Nat} (hi : i < 65536) : headP (fragO x i) false = ⟨i, true, true, [x], 0⟩ := by
  have h := headP_headB (n := i) (f := true) (e := true) (short := false) (show i < rgN false by show i < 16777216; omega) [x]
  have e : headB i (flagN true true) false ++ [x] = fragO x i := by
    unfold headB fragO flagN
    rw [show i / 65536 = 0 by omega]
    rfl
  rw [e] at h
  exact h
theorem heldO_get {x : UInt8} {a k n : Nat} (h : n < a ∨ a + k ≤ n) : getP (heldO x a k) n = none := by
  rw [getP_none]
  unfold heldO
  simp only [List.map_map, List.mem_map, List.mem_range'_1, Function.comp]
  rintro ⟨m, ⟨h1, h2⟩, rfl⟩
  omega
theorem run_nil {s : JS} (h : getP s.held s.next = none) : runP s = [] := by unfold runP; exact runF_none h
theorem step_none {s : JS} (h : getP s.held s.next = none) (hg : goneP s 0 = false) (hl : s.held.length ≤ 64) : stepP s = none := by
  unfold stepP
  rw [run_nil h]
  simp only [joinP, Option.isSome_none, Bool.false_eq_true, if_false, oddP, List.length_nil, hg]
  rw [if_neg (by omega)]
theorem gone_mute {short : Bool} {most next lost : Nat} {held : List (Nat × Pc)} {y : Int} (n : Nat) : goneP ⟨short, most, next, [y, -1], held, lost⟩ n = false := by
  unfold goneP
  simp [pastP]
theorem stU_none {x : UInt8} {k : Nat} (hk : k ≤ 64) : stepP (stU x k) = none :=
  step_none (heldO_get (Or.inl (show (0 : Nat) < 1 by omega))) (gone_mute 0) (by simp [stU, heldO]; exact hk)
theorem aheadI_on {R base n : Nat} (h1 : base ≤ n) (h2 : n < R) (h3 : n - base < R / 2) : aheadI R base n = ((n - base : Nat) : Int) := by
  have h := onR_cases (R := R) (base := base) (n := n) (by omega) h2
  rw [aheadI_of_nonneg (by rw [aheadI_nonneg]; omega)]
  omega
theorem aheadI_off {R n : Nat} (h2 : n + 1 < R) (h3 : 4 ≤ R) : aheadI R (n + 1) n = -1 := by
  have h := onR_cases (R := R) (base := n + 1) (n := n) h2 (by omega)
  rw [aheadI_eq, if_pos (by omega)]
/-- one more comes -/
theorem addU {x : UInt8} {k : Nat} {L : List (List UInt8)} {t : JS} (hk : k ≤ 64) (h : Goes (stU x (k + 1)) L t) : AddR (stU x k) 0 (fragO x (k + 1)) L 0 t := by
  have hh := fragO_head (x := x) (i := k + 1) (by omega)
  have hR : rgN false = 16777216 := rfl
  unfold AddR
  rw [show (stU x k).short = false from rfl, hh]
  dsimp only
  rw [if_neg (by simp [stU]), if_neg (by simp), if_neg]
  · refine ⟨rfl, ?_⟩
    have e : putP (stU x k) (0 : Int).toNat (k + 1) (pcOf (fragO x (k + 1)) false) = stU x (k + 1) := by
      unfold putP pcOf stU
      rw [hh]
      simp only [heldO, List.range'_1_concat, List.map_append, List.map_cons, List.map_nil]
      simp [pcO, Nat.add_comm]
    rw [e]
    exact h
  · unfold oldP
    rw [show (stU x k).short = false from rfl, show (stU x k).next = 0 from rfl, hR, aheadI_on (Nat.zero_le _) (by omega) (by omega), show (stU x k).held = heldO x 1 k from rfl, heldO_get (Or.inr (by omega))]
    by_cases h0 : k = 0
    · subst h0; simp [stU]
    · have e : (stU x k).last.getD (0 : Int).toNat 0 = (k : Int) := by simp [stU, h0]
      rw [e, Int.toNat_natCast, aheadI_on (Nat.zero_le _) (by omega) (by omega)]
      simp
      omega
theorem addU_few {x : UInt8} {k : Nat} (hk : k < 64) : AddR (stU x k) 0 (fragO x (k + 1)) [] 0 (stU x (k + 1)) := addU (by omega) (Goes.stop (stU_none (by omega)))
/-- behind the first one too many -/
theorem addV {x : UInt8} {k : Nat} (hk : k < 60000) : AddR (stV k) 0 (fragO x (k + 1)) [[x]] 0 (stV (k + 1)) := by
  have hh := fragO_head (x := x) (i := k + 1) (by omega)
  have hR : rgN false = 16777216 := rfl
  unfold AddR
  rw [show (stV k).short = false from rfl, hh]
  dsimp only
  rw [if_neg (by simp [stV]), if_neg (by simp), if_neg]
  · refine ⟨rfl, ?_⟩
    have e : putP (stV k) (0 : Int).toNat (k + 1) (pcOf (fragO x (k + 1)) false) = ⟨false, 100, k + 1, [((k + 1 : Nat) : Int), -1], [(k + 1, pcO x)], 0⟩ := by
      unfold putP pcOf stV
      rw [hh]
      rfl
    rw [e]
    have hrun : runP ⟨false, 100, k + 1, [((k + 1 : Nat) : Int), -1], [(k + 1, pcO x)], 0⟩ = [pcO x] := by
      unfold runP
      simp only [List.length_singleton]
      rw [runF_some (p := pcO x) (by simp [getP]), runF_none]
      rw [getP_none, hR]
      simp
      omega
    have hst : stepP ⟨false, 100, k + 1, [((k + 1 : Nat) : Int), -1], [(k + 1, pcO x)], 0⟩ = some (stV (k + 1), [[x]]) := by
      unfold stepP
      rw [hrun]
      have hj : joinP 100 [pcO x] = some (1, some [x]) := by simp [joinP, joinF, pcO]
      simp only [hj, Option.isSome_some, if_true, joinS, joinD]
      have hp : passP ⟨false, 100, k + 1, [((k + 1 : Nat) : Int), -1], [(k + 1, pcO x)], 0⟩ 1 = stV (k + 1) := by
        unfold passP stV
        simp only [hR]
        have hk1 : keepP 16777216 (k + 1) 1 (k + 1) = false := by
          unfold keepP
          rw [aheadI_on (Nat.le_refl _) (by omega) (by omega)]
          simp
        rw [List.filter_cons_of_neg (by simp [hk1]), List.filter_nil, Nat.mod_eq_of_lt (by omega)]
      rw [hp]
    have hno : stepP (stV (k + 1)) = none := step_none rfl (gone_mute 0) (by simp [stV])
    exact Goes.go hst (Goes.stop hno)
  · unfold oldP
    rw [show (stV k).short = false from rfl, show (stV k).next = k + 1 from rfl, hR, aheadI_on (Nat.le_refl _) (by omega) (by omega), show (stV k).held = [] from rfl]
    have e : (stV k).last.getD (0 : Int).toNat 0 = (k : Int) := rfl
    rw [e, Int.toNat_natCast, aheadI_off (by omega) (by omega)]
    simp [getP]
set_option maxRecDepth 1000000 in
theorem goU (x : UInt8) : goF 70 (stU x 65) = some (List.replicate 64 [x], stV 65) := by kernel_rfl
/-- the first one too many -/
theorem addU_much {x : UInt8} : AddR (stU x 64) 0 (fragO x 65) (List.replicate 64 [x]) 0 (stV 65) := addU (Nat.le_refl _) (goF_goes (goU x))
end Go.Proofs.Ytglmlhbchfgliaa
