/-
  Fragments that come in their order on one link, some of them missing: plainly. No conditions.
-/
import Derived.Test.YtglmlhbchfgliaaMuOver
namespace Go.Proofs.Ytglmlhbchfgliaa
open Go.RowKit Go.Maps
/-- fragments in a row, from number n on -/
def rowH (R : Nat) : Nat → List Pc → List (Nat × Pc)
  | _, [] => []
  | n, p :: r => (n, p) :: rowH R ((n + 1) % R) r
theorem rowH_length {R : Nat} : ∀ {n : Nat} {ps : List Pc}, (rowH R n ps).length = ps.length
  | _, [] => rfl
  | _, _ :: _ => by simp [rowH, rowH_length]
theorem rowH_snoc {R : Nat} : ∀ {n : Nat} {ps : List Pc} {p : Pc}, n < R → rowH R n (ps ++ [p]) = rowH R n ps ++ [((n + ps.length) % R, p)]
  | n, [], p, hn => by simp [rowH, Nat.mod_eq_of_lt hn]
  | n, q :: r, p, hn => by
    simp only [List.cons_append, rowH, List.length_cons]
    rw [rowH_snoc (Nat.mod_lt _ (by omega)), Nat.mod_add_mod, show n + 1 + r.length = n + (r.length + 1) by omega]
theorem mod_ne {R n i j : Nat} (hj : j < R) (hij : i < j) : (n + i) % R ≠ (n + j) % R := by
  intro e
  have e2 := Nat.sub_mod_eq_zero_of_mod_eq e.symm
  rw [show n + j - (n + i) = j - i by omega, Nat.mod_eq_of_lt (by omega)] at e2
  omega
theorem getP_cons {n m : Nat} {p : Pc} {l : List (Nat × Pc)} : getP ((n, p) :: l) m = if n = m then some p else getP l m := by
  unfold getP
  rw [List.find?_cons]
  by_cases h : n = m <;> simp [h]
theorem getP_rowH {R : Nat} : ∀ {n : Nat} {ps : List Pc} {k : Nat}, n < R → k < R → ps.length ≤ R → getP (rowH R n ps) ((n + k) % R) = ps[k]?
  | n, [], k, _, _, _ => by simp [rowH, getP]
  | n, p :: r, 0, hn, _, _ => by
    rw [rowH, getP_cons, Nat.add_zero, Nat.mod_eq_of_lt hn, if_pos rfl]; rfl
  | n, p :: r, k + 1, hn, hk, hl => by
    rw [rowH, getP_cons, if_neg]
    · have := getP_rowH (R := R) (n := (n + 1) % R) (ps := r) (k := k) (Nat.mod_lt _ (by omega)) (by omega) (by simp at hl; omega)
      rw [Nat.mod_add_mod] at this
      rw [show n + (k + 1) = n + 1 + k by omega, this]
      simp
    · have := mod_ne (R := R) (n := n) (i := 0) (j := k + 1) hk (by omega)
      rw [Nat.add_zero, Nat.mod_eq_of_lt hn] at this
      exact this
theorem runF_row {R : Nat} {held : List (Nat × Pc)} : ∀ {ps : List Pc} {f n : Nat}, n < R → (∀ k, k < ps.length → getP held ((n + k) % R) = ps[k]?) → getP held ((n + ps.length) % R) = none → ps.length < f → runF R held f n = ps
  | [], f, n, hn, _, h2, _ => by
    rw [List.length_nil, Nat.add_zero, Nat.mod_eq_of_lt hn] at h2
    exact runF_none h2
  | p :: r, f, n, hn, h1, h2, hf => by
    obtain ⟨f, rfl⟩ : ∃ f', f = f' + 1 := ⟨f - 1, by simp at hf; omega⟩
    have h0 := h1 0 (by simp)
    rw [Nat.add_zero, Nat.mod_eq_of_lt hn] at h0
    rw [runF_some (p := p) h0]
    congr 1
    refine runF_row (Nat.mod_lt _ (by omega)) (fun k hk => ?_) ?_ (by simp at hf; omega)
    · have := h1 (k + 1) (by simp; omega)
      rw [Nat.mod_add_mod, show n + 1 + k = n + (k + 1) by omega, this]
      simp
    · rw [Nat.mod_add_mod, show n + 1 + r.length = n + (p :: r).length by simp; omega]
      exact h2
theorem onR_add {R n i : Nat} (hn : n < R) (hi : i < R) : onR R n ((n + i) % R) = i := by
  have h1 := mod_cases (R := R) (a := n + i) (by omega)
  have h2 := onR_cases (R := R) (base := n) (n := (n + i) % R) hn (Nat.mod_lt _ (by omega))
  omega
theorem aheadI_add {R n i : Nat} (hn : n < R) (hi : i < R / 2) : aheadI R n ((n + i) % R) = (i : Int) := by
  rw [aheadI_eq, onR_add hn (by omega), if_neg (by omega)]
theorem filter_rowH {R n k : Nat} (hn : n < R) : ∀ {ps : List Pc} {i : Nat}, i + ps.length ≤ R / 2 → (rowH R ((n + i) % R) ps).filter (fun p => keepP R n k p.1) = rowH R ((n + max i k) % R) (ps.drop (k - i))
  | [], i, _ => by simp [rowH]
  | p :: r, i, h => by
    have h1 : i + r.length + 1 ≤ R / 2 := by simp at h; omega
    have ih := filter_rowH (n := n) (k := k) hn (ps := r) (i := i + 1) (by omega)
    rw [rowH, Nat.mod_add_mod, show n + i + 1 = n + (i + 1) by omega]
    have hk : keepP R n k ((n + i) % R) = decide (k ≤ i) := by
      unfold keepP
      rw [aheadI_add hn (by omega)]
      rw [Bool.eq_iff_iff]
      simp
    by_cases hki : k ≤ i
    · rw [List.filter_cons_of_pos (by simp [hk, hki]), ih, show max i k = i by omega, show k - i = 0 by omega, show max (i + 1) k = i + 1 by omega, show k - (i + 1) = 0 by omega]
      simp only [List.drop_zero]
      rw [rowH, Nat.mod_add_mod]
      rfl
    · rw [List.filter_cons_of_neg (by simp [hk, hki]), ih, show max (i + 1) k = k by omega, show max i k = k by omega, show k - i = (k - (i + 1)) + 1 by omega]
      rfl
end Go.Proofs.Ytglmlhbchfgliaa
