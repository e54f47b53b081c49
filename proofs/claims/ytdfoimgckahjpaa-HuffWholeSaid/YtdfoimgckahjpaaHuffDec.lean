/-
  What any bits tell by a table, plainly; what is put by a code is taken. No conditions.
-/
import Derived.Test.YtdfoimgckahjpaaHuffPlain
namespace Go.Proofs.Ytdfoimgckahjpaa
/-- the number of the first n bits, the first one highest -/
def val (f : Nat → Bool) : Nat → Nat
  | 0 => 0
  | n + 1 => 2 * val f n + (f n).toNat
/-- what m bits tell: the symbol, what is wrong, how many were taken (k were taken already, q lengths are left) -/
def tk (L : List Nat) (f : Nat → Bool) (m : Nat) : Nat → Nat → Nat × Nat × Nat
  | 0, k => (0, 10, k)
  | q + 1, k =>
    if (ord L 15).length ≤ (ord L k).length then (0, 10, k)
    else if m ≤ k then (0, 2, k)
    else if val f (k + 1) < fst L (k + 1) + cnt L (k + 1) then ((ord L 15).getD ((ord L k).length + (val f (k + 1) - fst L (k + 1))) 0, 0, k + 1)
    else tk L f m q (k + 1)
theorem val_lt (f : Nat → Bool) : ∀ n, val f n < 2 ^ n
  | 0 => by simp [val]
  | n + 1 => by
    have := val_lt f n
    have h2 : (f n).toNat ≤ 1 := by cases f n <;> simp
    rw [val, Nat.pow_succ]; omega
theorem val_div (f : Nat → Bool) (k : Nat) : ∀ d, val f (k + d) / 2 ^ d = val f k
  | 0 => by simp
  | d + 1 => by
    have h2 : (f (k + d)).toNat ≤ 1 := by cases f (k + d) <;> simp
    rw [show k + (d + 1) = (k + d) + 1 by omega, val, Nat.pow_succ, Nat.mul_comm (2 ^ d) 2, ← Nat.div_div_eq_div_mul, show (2 * val f (k + d) + (f (k + d)).toNat) / 2 = val f (k + d) by omega]
    exact val_div f k d
theorem val_congr {f g : Nat → Bool} : ∀ {n : Nat}, (∀ j, j < n → f j = g j) → val f n = val g n
  | 0, _ => rfl
  | n + 1, h => by rw [val, val, val_congr (fun j hj => h j (by omega)), h n (by omega)]
/-- a code's bits, the highest first -/
theorem val_code {f : Nat → Bool} {c n : Nat} (hc : c < 2 ^ n) (h : ∀ j, j < n → f j = c.testBit (n - 1 - j)) : val f n = c := by
  have key : ∀ k, k ≤ n → val f k = c / 2 ^ (n - k) := by
    intro k
    induction k with
    | zero => intro _; rw [Nat.sub_zero, Nat.div_eq_of_lt hc]; rfl
    | succ k ih =>
      intro hk
      rw [val, ih (by omega), h k (by omega), Nat.toNat_testBit, show n - k = (n - 1 - k) + 1 by omega, show n - (k + 1) = n - 1 - k by omega, Nat.pow_succ, ← Nat.div_div_eq_div_mul]
      omega
  have := key n (Nat.le_refl _)
  simpa using this
/-- the walk stands between two lengths: none was met, and there are longer ones -/
structure On (L : List Nat) (f : Nat → Bool) (k : Nat) : Prop where
  ge : fst L k + cnt L k ≤ val f k
  more : (ord L k).length < (ord L 15).length
section
variable {L : List Nat} {f : Nat → Bool} {m q k : Nat}
theorem On.zero (h : (ord L 15).length ≠ 0) : On L f 0 := ⟨by simp [fst, cnt, val], by show 0 < (ord L 15).length; omega⟩
theorem On.fst_le (h : On L f k) : fst L (k + 1) ≤ val f (k + 1) := by
  have := h.ge
  rw [fst, val]; omega
theorem On.short (h : On L f k) (hm : m ≤ k) : tk L f m (q + 1) k = (0, 2, k) := by
  have := h.more
  rw [tk, if_neg (by omega), if_pos hm]
theorem On.hit (h : On L f k) (hm : k < m) (hv : val f (k + 1) < fst L (k + 1) + cnt L (k + 1)) :
    tk L f m (q + 1) k = ((ord L 15).getD ((ord L k).length + (val f (k + 1) - fst L (k + 1))) 0, 0, k + 1) := by
  have := h.more
  rw [tk, if_neg (by omega), if_neg (by omega), if_pos hv]
theorem On.miss (h : On L f k) (hm : k < m) (hv : ¬ val f (k + 1) < fst L (k + 1) + cnt L (k + 1)) : tk L f m (q + 1) k = tk L f m q (k + 1) := by
  have := h.more
  rw [tk, if_neg (by omega), if_neg (by omega), if_neg hv]
/-- the symbol that is met -/
theorem On.sym (h : On L f k) (hk : k < 15) (hv : val f (k + 1) < fst L (k + 1) + cnt L (k + 1)) :
    ∃ i, i < L.length ∧ L.getD i 0 = k + 1 ∧ codeOf L i = val f (k + 1) ∧ (ord L 15)[(ord L k).length + (val f (k + 1) - fst L (k + 1))]? = some i := by
  have h1 := h.fst_le
  rw [cnt_pos (by omega)] at hv
  obtain ⟨i, hi, h2, h3, h4⟩ := syms_get (L := L) (n := k + 1) (r := val f (k + 1) - fst L (k + 1)) (by omega)
  refine ⟨i, hi, h2, ?_, ord_at (by omega) h4⟩
  rw [codeOf_pos (by omega), h2, h3]; omega
theorem On.exact_ (h : On L f k) (hk : k < 15) (hm : k < m) {i : Nat} (hi : i < L.length) (hl : L.getD i 0 = k + 1) (hc : codeOf L i = val f (k + 1)) : tk L f m (q + 1) k = (i, 0, k + 1) := by
  have h1 := codeOf_lt hi (by omega)
  rw [hl, hc] at h1
  obtain ⟨i', hi', h2, h3, h4⟩ := h.sym hk h1
  have e := codeOf_inj hi hi' (by omega) (by omega) (by omega)
  subst e
  rw [h.hit hm h1, List.getD_eq_getElem?_getD, h4]; rfl
theorem On.none_ (h : On L f k) (hk : k < 15) (hno : ∀ i, i < L.length → L.getD i 0 = k + 1 → codeOf L i ≠ val f (k + 1)) : ¬ val f (k + 1) < fst L (k + 1) + cnt L (k + 1) := by
  intro hv
  obtain ⟨i, hi, h2, h3, _⟩ := h.sym hk hv
  exact hno i hi h2 h3
theorem longer {i : Nat} (hi : i < L.length) (h1 : k < L.getD i 0) (h2 : L.getD i 0 ≤ 15) : (ord L k).length < (ord L 15).length := by
  have h3 := rank_lt hi
  have h4 := ord_length L (L.getD i 0 - 1)
  rw [show L.getD i 0 - 1 + 1 = L.getD i 0 by omega, cnt_pos (by omega)] at h4
  have h5 := ord_le (L := L) (show k ≤ L.getD i 0 - 1 by omega)
  have h6 := ord_le (L := L) h2
  omega
/-- where there are just as many codes as may be, bits that are no code yet begin one -/
theorem complete (hW : Whole L) (h1 : 1 ≤ k) (hk : k ≤ 15) (hge : fst L k + cnt L k ≤ val f k) (hm : (ord L k).length < (ord L 15).length) :
    ∃ i, i < L.length ∧ k < L.getD i 0 ∧ codeOf L i / 2 ^ (L.getD i 0 - k) = val f k := by
  rcases hW with h | h | ⟨h, hc⟩
  · have key : ∀ d, k + d ≤ 15 → (∃ e, e < d ∧ fst L (k + (e + 1)) ≤ val f k * 2 ^ (e + 1) ∧ val f k * 2 ^ (e + 1) < fst L (k + (e + 1)) + cnt L (k + (e + 1))) ∨ fst L (k + d) + cnt L (k + d) ≤ val f k * 2 ^ d := by
      intro d
      induction d with
      | zero => intro _; right; simpa using hge
      | succ d ih =>
        intro hd
        rcases ih (by omega) with ⟨e, he, h2⟩ | h2
        · exact .inl ⟨e, by omega, h2⟩
        · have h3 : fst L (k + (d + 1)) ≤ val f k * 2 ^ (d + 1) := by
            rw [show k + (d + 1) = (k + d) + 1 by omega, fst, Nat.pow_succ, ← Nat.mul_assoc]; omega
          by_cases h4 : val f k * 2 ^ (d + 1) < fst L (k + (d + 1)) + cnt L (k + (d + 1))
          · exact .inl ⟨d, by omega, h3, h4⟩
          · exact .inr (by omega)
    rcases key (15 - k) (by omega) with ⟨e, he, h2, h3⟩ | h2
    · rw [cnt_pos (by omega)] at h3
      obtain ⟨i, hi, h4, h5, _⟩ := syms_get (L := L) (n := k + (e + 1)) (r := val f k * 2 ^ (e + 1) - fst L (k + (e + 1))) (by omega)
      refine ⟨i, hi, by omega, ?_⟩
      rw [codeOf_pos (by omega), h4, h5, show k + (e + 1) - k = e + 1 by omega, show fst L (k + (e + 1)) + (val f k * 2 ^ (e + 1) - fst L (k + (e + 1))) = val f k * 2 ^ (e + 1) by omega]
      exact Nat.mul_div_cancel _ (Nat.pow_pos (by decide))
    · have h3 := sumK_fst L 15 (Nat.le_refl _)
      rw [h] at h3
      rw [show k + (15 - k) = 15 by omega] at h2
      have h4 := val_lt f k
      have h5 : val f k * 2 ^ (15 - k) < 2 ^ k * 2 ^ (15 - k) := Nat.mul_lt_mul_of_pos_right h4 (Nat.pow_pos (by decide))
      rw [← Nat.pow_add, show k + (15 - k) = 15 by omega] at h5
      simp at h3 h5
      omega
  · omega
  · have h2 := ord_length L 0
    have h3 := ord_le (L := L) h1
    simp [ord] at h2
    rw [hc] at h2
    simp [ord] at h3
    omega
/-- the reference goes on as long as the bits begin a code -/
theorem On.next (h : On L f k) (hv : ¬ val f (k + 1) < fst L (k + 1) + cnt L (k + 1)) {i : Nat} (hi : i < L.length) (h1 : k + 1 < L.getD i 0) (h2 : L.getD i 0 ≤ 15) : On L f (k + 1) :=
  have _ := h
  ⟨by omega, longer hi h1 h2⟩
theorem On.stop (hW : Whole L) (h : On L f k) (hk : k < 15) (hv : ¬ val f (k + 1) < fst L (k + 1) + cnt L (k + 1))
    (hno : ∀ i, i < L.length → k + 1 < L.getD i 0 → codeOf L i / 2 ^ (L.getD i 0 - (k + 1)) ≠ val f (k + 1)) : tk L f m q (k + 1) = (0, 10, k + 1) := by
  have _ := h
  cases q with
  | zero => rfl
  | succ q =>
    rw [tk]
    by_cases h3 : (ord L 15).length ≤ (ord L (k + 1)).length
    · rw [if_pos h3]
    · obtain ⟨i, hi, h4, h5⟩ := complete hW (show 1 ≤ k + 1 by omega) (by omega) (show fst L (k + 1) + cnt L (k + 1) ≤ val f (k + 1) by omega) (by omega)
      exact absurd h5 (hno i hi h4)
/-- what was put by a code is taken -/
theorem tk_code {i : Nat} (hi : i < L.length) (h0 : 0 < L.getD i 0) (h15 : L.getD i 0 ≤ 15) (hv : val f (L.getD i 0) = codeOf L i) (hm : L.getD i 0 ≤ m) : tk L f m 15 0 = (i, 0, L.getD i 0) := by
  have hge : ∀ k, k < L.getD i 0 → On L f k := by
    intro k hk
    refine ⟨?_, longer hi hk h15⟩
    have h1 := prefix_ge (L := L) (i := i) (n := k) hk
    have h2 := val_div f k (L.getD i 0 - k)
    rw [show k + (L.getD i 0 - k) = L.getD i 0 by omega, hv] at h2
    omega
  have key : ∀ d k, k + d + 1 = L.getD i 0 → tk L f m (15 - k) k = (i, 0, L.getD i 0) := by
    intro d
    induction d with
    | zero =>
      intro k hk
      rw [show 15 - k = (14 - k) + 1 by omega, (hge k (by omega)).exact_ (by omega) (by omega) hi (by omega) (by rw [← hv]; congr 1; omega)]
      rw [show k + 1 = L.getD i 0 by omega]
    | succ d ih =>
      intro k hk
      have h1 := hge (k + 1) (by omega)
      have h2 := h1.ge
      rw [show 15 - k = (15 - (k + 1)) + 1 by omega, (hge k (by omega)).miss (by omega) (by omega)]
      exact ih (k + 1) (by omega)
  have := key (L.getD i 0 - 1) 0 (by omega)
  simpa using this
end
end Go.Proofs.Ytdfoimgckahjpaa
