/-
  Codes of unlike lengths, plainly: what a table's codes are, what any bits tell by them. No conditions.
-/
import Derived.Test.YtdfoimgckahjpaaLib
namespace Go.Proofs.Ytdfoimgckahjpaa
/-- how many codes of a length there are -/
def cnt (L : List Nat) (n : Nat) : Nat := if n = 0 then 0 else L.count n
/-- the first code of a length -/
def fst (L : List Nat) : Nat → Nat
  | 0 => 0
  | n + 1 => 2 * (fst L n + cnt L n)
/-- a symbol's code -/
def codeOf (L : List Nat) (i : Nat) : Nat := if L.getD i 0 = 0 then 0 else fst L (L.getD i 0) + (L.take i).count (L.getD i 0)
/-- the symbols of a length among the first k -/
def symsTo (L : List Nat) (n k : Nat) : List Nat := (List.range k).filter (fun i => decide (L.getD i 0 = n))
def syms (L : List Nat) (n : Nat) : List Nat := symsTo L n L.length
/-- the symbols by their codes, up to a length -/
def ord (L : List Nat) : Nat → List Nat
  | 0 => []
  | n + 1 => ord L n ++ syms L (n + 1)
/-- how much of all the codes up to a length take -/
def sumK (L : List Nat) : Nat → Nat
  | 0 => 0
  | n + 1 => sumK L n + cnt L (n + 1) * 2 ^ (15 - (n + 1))
/-- are there just as many codes as may be? -/
def Whole (L : List Nat) : Prop := sumK L 15 = 32768 ∨ (ord L 15).length = 0 ∨ (ord L 15).length = 1 ∧ cnt L 1 = 1

theorem symsTo_succ (L : List Nat) (n k : Nat) : symsTo L n (k + 1) = symsTo L n k ++ (if L.getD k 0 = n then [k] else []) := by
  unfold symsTo
  rw [List.range_succ, List.filter_append]
  congr 1
  by_cases h : L.getD k 0 = n
  · rw [if_pos h, List.filter_cons_of_pos (by simpa using h)]; rfl
  · rw [if_neg h, List.filter_cons_of_neg (by simpa using h)]; rfl
theorem symsTo_length {L : List Nat} {n : Nat} : ∀ {k : Nat}, k ≤ L.length → (symsTo L n k).length = (L.take k).count n
  | 0, _ => by simp [symsTo]
  | k + 1, h => by
    have e : L.getD k 0 = L[k] := by rw [List.getD_eq_getElem?_getD, List.getElem?_eq_getElem (by omega)]; rfl
    rw [symsTo_succ, List.length_append, symsTo_length (by omega : k ≤ L.length), List.take_succ_eq_append_getElem (by omega), List.count_append, e]
    by_cases h2 : L[k] = n
    · simp [h2]
    · simp [h2]
theorem syms_length (L : List Nat) (n : Nat) : (syms L n).length = L.count n := by
  unfold syms; rw [symsTo_length (Nat.le_refl _), List.take_length]
theorem symsTo_mono {L : List Nat} {n k : Nat} : ∀ {m : Nat}, k ≤ m → ∃ r, symsTo L n m = symsTo L n k ++ r
  | 0, h => ⟨[], by obtain rfl : k = 0 := by omega
                    simp⟩
  | m + 1, h => by
    by_cases e : k = m + 1
    · subst e; exact ⟨[], by simp⟩
    · obtain ⟨r, hr⟩ := symsTo_mono (L := L) (n := n) (show k ≤ m by omega)
      exact ⟨r ++ (if L.getD m 0 = n then [m] else []), by rw [symsTo_succ, hr, List.append_assoc]⟩
/-- a symbol stands among those of its length where its rank says -/
theorem syms_at {L : List Nat} {i : Nat} (h : i < L.length) : (syms L (L.getD i 0))[(L.take i).count (L.getD i 0)]? = some i := by
  obtain ⟨r, hr⟩ := symsTo_mono (L := L) (n := L.getD i 0) (show i + 1 ≤ L.length by omega)
  unfold syms
  rw [hr, symsTo_succ, if_pos rfl, List.append_assoc, List.getElem?_append_right (by rw [symsTo_length (by omega)]; exact Nat.le_refl _), symsTo_length (by omega)]
  simp
/-- which symbol a place among those of a length has -/
theorem syms_get {L : List Nat} {n r : Nat} (h : r < L.count n) : ∃ i, i < L.length ∧ L.getD i 0 = n ∧ (L.take i).count n = r ∧ (syms L n)[r]? = some i := by
  have hl : r < (syms L n).length := by rw [syms_length]; exact h
  have hm : (syms L n)[r] ∈ syms L n := List.getElem_mem hl
  obtain ⟨i, hi⟩ : ∃ i, (syms L n)[r] = i := ⟨_, rfl⟩
  rw [hi] at hm
  have h2 : i < L.length ∧ L.getD i 0 = n := by
    unfold syms symsTo at hm
    simpa using hm
  refine ⟨i, h2.1, h2.2, ?_, by rw [List.getElem?_eq_getElem hl, hi]⟩
  have h3 := syms_at h2.1
  rw [h2.2] at h3
  have hnd : (syms L n).Pairwise (· ≠ ·) := List.Pairwise.filter _ List.nodup_range
  have h4 : (L.take i).count n < (syms L n).length := (List.getElem?_eq_some_iff.1 h3).1
  have h5 : (syms L n)[(L.take i).count n] = i := (List.getElem?_eq_some_iff.1 h3).2
  have h6 := List.pairwise_iff_getElem.1 hnd
  rcases Nat.lt_trichotomy ((L.take i).count n) r with h | h | h
  · exact absurd (by rw [h5, hi]) (h6 _ _ h4 hl h)
  · exact h
  · exact absurd (by rw [h5, hi]) (h6 _ _ hl h4 h)
theorem cnt_pos {L : List Nat} {n : Nat} (h : 0 < n) : cnt L n = L.count n := by unfold cnt; rw [if_neg (by omega)]
theorem ord_length (L : List Nat) (n : Nat) : (ord L (n + 1)).length = (ord L n).length + cnt L (n + 1) := by
  rw [ord, List.length_append, syms_length, cnt_pos (by omega)]
theorem ord_mono {L : List Nat} {n : Nat} : ∀ {m : Nat}, n ≤ m → ∃ r, ord L m = ord L n ++ r
  | 0, h => ⟨[], by obtain rfl : n = 0 := by omega
                    simp⟩
  | m + 1, h => by
    by_cases e : n = m + 1
    · subst e; exact ⟨[], by simp⟩
    · obtain ⟨r, hr⟩ := ord_mono (L := L) (show n ≤ m by omega)
      exact ⟨r ++ syms L (m + 1), by rw [ord, hr, List.append_assoc]⟩
theorem ord_le {L : List Nat} {n m : Nat} (h : n ≤ m) : (ord L n).length ≤ (ord L m).length := by
  obtain ⟨r, hr⟩ := ord_mono (L := L) h
  rw [hr]; simp
/-- the symbol of a code of a length -/
theorem ord_at {L : List Nat} {n r i m : Nat} (hm : n + 1 ≤ m) (h : (syms L (n + 1))[r]? = some i) : (ord L m)[(ord L n).length + r]? = some i := by
  obtain ⟨t, ht⟩ := ord_mono (L := L) hm
  have hr := (List.getElem?_eq_some_iff.1 h).1
  rw [ht, ord, List.append_assoc, List.getElem?_append_right (by omega), Nat.add_sub_cancel_left, List.getElem?_append_left hr, h]
theorem ord_mem {L : List Nat} {x : Nat} : ∀ {n : Nat}, x ∈ ord L n → x < L.length
  | 0, h => by cases h
  | n + 1, h => by
    rw [ord, List.mem_append] at h
    rcases h with h | h
    · exact ord_mem h
    · unfold syms symsTo at h
      simp at h
      exact h.1
/-- the codes' measure -/
theorem sumK_fst (L : List Nat) : ∀ n, n ≤ 15 → sumK L n = (fst L n + cnt L n) * 2 ^ (15 - n)
  | 0, _ => by simp [sumK, fst, cnt]
  | n + 1, h => by
    rw [sumK, sumK_fst L n (by omega), fst, show 15 - n = (15 - (n + 1)) + 1 by omega, Nat.pow_succ, Nat.add_mul (2 * _)]
    generalize 2 ^ (15 - (n + 1)) = p
    generalize fst L n + cnt L n = q
    rw [Nat.mul_comm p 2, ← Nat.mul_assoc, Nat.mul_comm q 2]
/-- the first code of a length is behind all of the lesser lengths' -/
theorem fst_ge (L : List Nat) (n : Nat) : ∀ d, (fst L n + cnt L n) * 2 ^ (d + 1) ≤ fst L (n + (d + 1))
  | 0 => by rw [show n + (0 + 1) = n + 1 from rfl, fst, Nat.mul_comm]; simp
  | d + 1 => by
    have h := fst_ge L n d
    rw [show n + (d + 1 + 1) = (n + (d + 1)) + 1 by omega, fst, Nat.pow_succ, ← Nat.mul_assoc]
    omega
theorem whole_le {L : List Nat} (h : Whole L) : sumK L 15 ≤ 32768 := by
  rcases h with h | h | ⟨h, h1⟩
  · omega
  · have hz : ∀ n, n ≤ 15 → sumK L n = 0 := by
      intro n
      induction n with
      | zero => intro _; rfl
      | succ n ih =>
        intro hn
        have h1 := ord_le (L := L) hn
        have h2 := ord_length L n
        rw [sumK, ih (by omega), show cnt L (n + 1) = 0 by omega]
        simp
    rw [hz 15 (by omega)]; omega
  · have hz : ∀ n, n ≤ 14 → sumK L (n + 1) = 16384 ∧ (ord L (n + 1)).length = 1 := by
      intro n
      induction n with
      | zero =>
        intro _
        refine ⟨by simp [sumK, h1], ?_⟩
        rw [ord_length, h1]; rfl
      | succ n ih =>
        intro hn
        obtain ⟨h3, h4⟩ := ih (by omega)
        have h5 := ord_length L (n + 1)
        have h6 := ord_le (L := L) (show n + 1 + 1 ≤ 15 by omega)
        refine ⟨?_, by omega⟩
        rw [sumK, h3, show cnt L (n + 1 + 1) = 0 by omega]
        simp
    have : sumK L 15 = 16384 := (hz 14 (by omega)).1
    omega
theorem sumK_mono (L : List Nat) {n m : Nat} (h : n ≤ m) : sumK L n ≤ sumK L m := by
  induction m with
  | zero => obtain rfl : n = 0 := by omega
            exact Nat.le_refl _
  | succ m ih =>
    by_cases e : n = m + 1
    · subst e; exact Nat.le_refl _
    · have := ih (by omega)
      rw [sumK]; omega
/-- codes of n bits are below 2^n -/
theorem fst_le {L : List Nat} (h : Whole L) {n : Nat} (hn : n ≤ 15) : fst L n + cnt L n ≤ 2 ^ n := by
  have h1 := sumK_fst L n hn
  have h2 := sumK_mono L hn
  have h3 := whole_le h
  have h4 : (2 : Nat) ^ n * 2 ^ (15 - n) = 32768 := by rw [← Nat.pow_add, show n + (15 - n) = 15 by omega]
  have h5 : 0 < (2 : Nat) ^ (15 - n) := Nat.pow_pos (by decide)
  exact Nat.le_of_mul_le_mul_right (by omega) h5
theorem codeOf_pos {L : List Nat} {i : Nat} (h : 0 < L.getD i 0) : codeOf L i = fst L (L.getD i 0) + (L.take i).count (L.getD i 0) := by
  unfold codeOf; rw [if_neg (by omega)]
theorem rank_lt {L : List Nat} {i : Nat} (h : i < L.length) : (L.take i).count (L.getD i 0) < L.count (L.getD i 0) := by
  have := (List.getElem?_eq_some_iff.1 (syms_at h)).1
  rwa [syms_length] at this
theorem codeOf_lt {L : List Nat} {i : Nat} (h : i < L.length) (h0 : 0 < L.getD i 0) : codeOf L i < fst L (L.getD i 0) + cnt L (L.getD i 0) := by
  rw [codeOf_pos h0, cnt_pos h0]
  have := rank_lt h
  omega
theorem codeOf_ge {L : List Nat} {i : Nat} (h0 : 0 < L.getD i 0) : fst L (L.getD i 0) ≤ codeOf L i := by
  rw [codeOf_pos h0]; omega
/-- no code is the beginning of another one -/
theorem prefix_ge {L : List Nat} {i n : Nat} (h0 : n < L.getD i 0) : fst L n + cnt L n ≤ codeOf L i / 2 ^ (L.getD i 0 - n) := by
  rw [Nat.le_div_iff_mul_le (Nat.pow_pos (by decide))]
  have h1 := fst_ge L n (L.getD i 0 - n - 1)
  rw [show L.getD i 0 - n - 1 + 1 = L.getD i 0 - n by omega, show n + (L.getD i 0 - n) = L.getD i 0 by omega] at h1
  have h2 := codeOf_ge (L := L) (i := i) (by omega)
  omega
theorem codeOf_inj {L : List Nat} {i k : Nat} (hi : i < L.length) (hk : k < L.length) (h0 : 0 < L.getD i 0) (hl : L.getD i 0 = L.getD k 0) (h : codeOf L i = codeOf L k) : i = k := by
  rw [codeOf_pos h0, codeOf_pos (by omega), hl] at h
  have h1 := syms_at hi
  have h2 := syms_at hk
  rw [hl, show (L.take i).count (L.getD k 0) = (L.take k).count (L.getD k 0) by omega, h2] at h1
  injection h1 with h1
  exact h1.symm
theorem prefix_free {L : List Nat} {i k : Nat} (hi : i < L.length) (hk : k < L.length) (hne : i ≠ k) (h0 : 0 < L.getD i 0) (hle : L.getD i 0 ≤ L.getD k 0) : codeOf L k / 2 ^ (L.getD k 0 - L.getD i 0) ≠ codeOf L i := by
  intro e
  by_cases hl : L.getD i 0 = L.getD k 0
  · rw [hl, Nat.sub_self] at e
    simp at e
    exact hne (codeOf_inj hi hk h0 hl e.symm)
  · have h1 := prefix_ge (L := L) (i := k) (n := L.getD i 0) (by omega)
    have h2 := codeOf_lt hi h0
    omega
end Go.Proofs.Ytdfoimgckahjpaa
