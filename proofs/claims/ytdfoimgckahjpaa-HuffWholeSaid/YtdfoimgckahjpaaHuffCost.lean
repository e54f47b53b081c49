/-
  What merging the two rarest costs: no more than equal lengths. Plain. No conditions.
-/
import Derived.Test.YtdfoimgckahjpaaUsed
namespace Go.Proofs.Ytdfoimgckahjpaa
open Go.RowKit
/-- a weight put in its place, behind equal ones -/
def insW (x : Nat) : List Nat → List Nat
  | [] => [x]
  | y :: r => if y ≤ x then y :: insW x r else x :: y :: r
/-- what the merges cost -/
def costW : Nat → List Nat → Nat
  | k + 1, a :: b :: r => (a + b) + costW k (insW (a + b) r)
  | _, _ => 0
theorem insW_length (x : Nat) : ∀ r : List Nat, (insW x r).length = r.length + 1
  | [] => rfl
  | y :: r => by
    unfold insW
    split
    · rw [List.length_cons, insW_length x r, List.length_cons]
    · rfl
theorem insW_sum (x : Nat) : ∀ r : List Nat, (insW x r).sum = r.sum + x
  | [] => by simp [insW]
  | y :: r => by
    unfold insW
    split
    · rw [List.sum_cons, insW_sum x r, List.sum_cons]; omega
    · rw [List.sum_cons]; omega
theorem insW_mem (x : Nat) : ∀ (r : List Nat) (z : Nat), z ∈ insW x r → z = x ∨ z ∈ r
  | [], z, h => by simp [insW] at h; exact .inl h
  | y :: r, z, h => by
    unfold insW at h
    split at h
    · rcases List.mem_cons.1 h with e | e
      · exact .inr (by rw [e]; exact List.mem_cons_self ..)
      · rcases insW_mem x r z e with e2 | e2
        · exact .inl e2
        · exact .inr (List.mem_cons_of_mem _ e2)
    · rcases List.mem_cons.1 h with e | e
      · exact .inl e
      · exact .inr e
theorem insW_sorted (x : Nat) : ∀ r : List Nat, r.Pairwise (· ≤ ·) → (insW x r).Pairwise (· ≤ ·)
  | [], _ => List.pairwise_singleton _ _
  | y :: r, h => by
    obtain ⟨h1, h2⟩ := List.pairwise_cons.1 h
    unfold insW
    split
    · refine List.pairwise_cons.2 ⟨fun z hz => ?_, insW_sorted x r h2⟩
      rcases insW_mem x r z hz with e | e
      · omega
      · exact h1 z e
    · refine List.pairwise_cons.2 ⟨fun z hz => ?_, h⟩
      rcases List.mem_cons.1 hz with e | e
      · omega
      · have := h1 z e; omega
theorem insW_drop (x : Nat) : ∀ (r : List Nat) (j : Nat), r.Pairwise (· ≤ ·) → j ≤ r.length → (r.drop j).sum + x ≤ ((insW x r).drop j).sum
  | r, 0, _, _ => by rw [List.drop_zero, List.drop_zero, insW_sum]; exact Nat.le_refl _
  | [], j + 1, _, h => by simp at h
  | y :: r, j + 1, hs, hj => by
    obtain ⟨h1, h2⟩ := List.pairwise_cons.1 hs
    rw [List.length_cons] at hj
    unfold insW
    split
    · rw [List.drop_succ_cons, List.drop_succ_cons]
      exact insW_drop x r j h2 (by omega)
    · rename_i hyx
      rw [List.drop_succ_cons, List.drop_succ_cons]
      have hjl : j < (y :: r).length := by rw [List.length_cons]; omega
      rw [List.drop_eq_getElem_cons hjl, List.drop_succ_cons, List.sum_cons]
      have hm : (y :: r)[j] ∈ y :: r := List.getElem_mem hjl
      have : y ≤ (y :: r)[j] := by
        rcases List.mem_cons.1 hm with e | e
        · rw [e]; exact Nat.le_refl _
        · exact h1 _ e
      omega
theorem sum_drop_le : ∀ (l : List Nat) (j : Nat), (l.drop j).sum ≤ l.sum
  | l, 0 => Nat.le_refl _
  | [], j + 1 => Nat.le_refl _
  | y :: r, j + 1 => by
    rw [List.drop_succ_cons, List.sum_cons]
    have := sum_drop_le r j
    omega
/-- the merges cost no more than equal lengths, and less by what the commonest save -/
theorem costW_le : ∀ (k f : Nat) (ws : List Nat), ws.Pairwise (· ≤ ·) → ws.length ≤ 2 ^ k → ws.length ≤ f + 1 → costW f ws + (ws.drop (2 * ws.length - 2 ^ k)).sum ≤ k * ws.sum
  | 0, f, ws, _, h1, _ => by
    match ws, f with
    | [], 0 => simp [costW]
    | [], _ + 1 => simp [costW]
    | [x], 0 => simp [costW]
    | [x], _ + 1 => simp [costW]
    | _ :: _ :: _, _ => simp at h1
  | k + 1, f, ws, hs, h1, h2 => by
    by_cases hk : ws.length ≤ 2 ^ k
    · have h3 := costW_le k f ws hs hk h2
      have h4 := sum_drop_le ws (2 * ws.length - 2 ^ (k + 1))
      have h5 : (k + 1) * ws.sum = k * ws.sum + ws.sum := Nat.succ_mul _ _
      omega
    · have hp : 0 < 2 ^ k := Nat.pow_pos (by decide)
      match ws, f, hs, h1, h2, hk with
      | [], _, _, _, _, hk => exact absurd (Nat.zero_le _) hk
      | [x], _, _, _, _, hk => exact absurd (show [x].length ≤ 2 ^ k from hp) hk
      | a :: b :: r, 0, _, _, h2, _ => simp at h2
      | a :: b :: r, f + 1, hs, h1, h2, hk =>
        obtain ⟨_, hs2⟩ := List.pairwise_cons.1 hs
        obtain ⟨_, hs3⟩ := List.pairwise_cons.1 hs2
        have hl := insW_length (a + b) r
        have hsum := insW_sum (a + b) r
        simp only [List.length_cons] at h1 h2 hk
        rw [Nat.pow_succ] at h1
        have h3 := costW_le (k + 1) f (insW (a + b) r) (insW_sorted _ _ hs3) (by rw [hl, Nat.pow_succ]; omega) (by omega)
        rw [hl, hsum, Nat.pow_succ] at h3
        obtain ⟨j, hj⟩ : ∃ j, 2 * (r.length + 1) - 2 ^ k * 2 = j := ⟨_, rfl⟩
        rw [hj] at h3
        have h4 := insW_drop (a + b) r j hs3 (by omega)
        have e : 2 * (a :: b :: r).length - 2 ^ (k + 1) = j + 2 := by simp only [List.length_cons, Nat.pow_succ]; omega
        rw [e, List.drop_succ_cons, List.drop_succ_cons]
        simp only [costW, List.sum_cons]
        rw [show a + (b + r.sum) = r.sum + (a + b) by omega]
        omega
end Go.Proofs.Ytdfoimgckahjpaa
