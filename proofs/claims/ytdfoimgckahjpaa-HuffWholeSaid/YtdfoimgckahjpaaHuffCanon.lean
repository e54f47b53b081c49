/-
  How codes are given, step by step, plainly. No conditions.
-/
import Derived.Test.YtdfoimgckahjpaaHuffHeap
namespace Go.Proofs.Ytdfoimgckahjpaa
/-- what the codes of some lengths take -/
def kraft : List Nat → Nat
  | [] => 0
  | x :: L => kraft L + (if x = 0 then 0 else 2 ^ (15 - x))
def manyOf : List Nat → Nat
  | [] => 0
  | x :: L => manyOf L + (if x = 0 then 0 else 1)
theorem kraft_snoc (x : Nat) : ∀ L, kraft (L ++ [x]) = kraft L + (if x = 0 then 0 else 2 ^ (15 - x))
  | [] => by simp [kraft]
  | y :: L => by rw [List.cons_append, kraft, kraft_snoc x L, kraft]; omega
theorem manyOf_snoc (x : Nat) : ∀ L, manyOf (L ++ [x]) = manyOf L + (if x = 0 then 0 else 1)
  | [] => by simp [manyOf]
  | y :: L => by rw [List.cons_append, manyOf, manyOf_snoc x L, manyOf]; omega
theorem cnt_cons (x : Nat) (L : List Nat) (n : Nat) : cnt (x :: L) (n + 1) = cnt L (n + 1) + (if x = n + 1 then 1 else 0) := by
  rw [cnt_pos (by omega), cnt_pos (by omega), List.count_cons]
  by_cases h : x = n + 1 <;> simp [h]
theorem sumK_cons (x : Nat) (L : List Nat) : ∀ n, sumK (x :: L) n = sumK L n + (if 0 < x ∧ x ≤ n then 2 ^ (15 - x) else 0)
  | 0 => by
    have : ¬ (0 < x ∧ x ≤ 0) := by omega
    rw [if_neg this]; rfl
  | n + 1 => by
    rw [sumK, sumK, sumK_cons x L n, cnt_cons, Nat.add_mul]
    by_cases h : x = n + 1
    · subst h
      rw [if_pos rfl, if_neg (by omega), if_pos (by omega)]; omega
    · rw [if_neg h]
      by_cases h2 : 0 < x ∧ x ≤ n
      · rw [if_pos h2, if_pos (by omega)]; omega
      · rw [if_neg h2, if_neg (by omega)]; omega
theorem ordlen_cons (x : Nat) (L : List Nat) : ∀ n, (ord (x :: L) n).length = (ord L n).length + (if 0 < x ∧ x ≤ n then 1 else 0)
  | 0 => by
    have : ¬ (0 < x ∧ x ≤ 0) := by omega
    rw [if_neg this]; rfl
  | n + 1 => by
    rw [ord_length, ord_length, ordlen_cons x L n, cnt_cons]
    by_cases h : x = n + 1
    · subst h
      rw [if_pos rfl, if_neg (by omega), if_pos (by omega)]; omega
    · rw [if_neg h]
      by_cases h2 : 0 < x ∧ x ≤ n
      · rw [if_pos h2, if_pos (by omega)]; omega
      · rw [if_neg h2, if_neg (by omega)]; omega
theorem sumK_kraft : ∀ {L : List Nat}, (∀ x ∈ L, x ≤ 15) → sumK L 15 = kraft L
  | [], _ => by decide
  | x :: L, h => by
    rw [sumK_cons, kraft, sumK_kraft (fun y hy => h y (List.mem_cons_of_mem _ hy))]
    have := h x (List.mem_cons_self ..)
    by_cases h0 : x = 0
    · rw [if_pos h0, if_neg (by omega)]
    · rw [if_neg h0, if_pos (by omega)]
theorem ordlen_many : ∀ {L : List Nat}, (∀ x ∈ L, x ≤ 15) → (ord L 15).length = manyOf L
  | [], _ => by decide
  | x :: L, h => by
    rw [ordlen_cons, manyOf, ordlen_many (fun y hy => h y (List.mem_cons_of_mem _ hy))]
    have := h x (List.mem_cons_self ..)
    by_cases h0 : x = 0
    · rw [if_pos h0, if_neg (by omega)]
    · rw [if_neg h0, if_pos (by omega)]
theorem kraft_le (q : Nat) (hq : 2 ^ 14 = q) : ∀ L : List Nat, kraft L ≤ L.length * q
  | [] => by simp [kraft]
  | x :: L => by
    have h0 := kraft_le q hq L
    have h2 : (if x = 0 then 0 else 2 ^ (15 - x)) ≤ q := by
      split
      · exact Nat.zero_le _
      · rw [← hq]; exact Nat.pow_le_pow_right (by decide) (by omega)
    rw [kraft, List.length_cons, Nat.add_mul, Nat.one_mul]
    exact Nat.add_le_add h0 h2
theorem manyOf_le : ∀ L : List Nat, manyOf L ≤ L.length
  | [] => Nat.le_refl _
  | x :: L => by
    have := manyOf_le L
    rw [manyOf, List.length_cons]
    split <;> omega
/-- what the reference keeps as it goes through the lengths -/
structure St (L : List Nat) (single : Nat) : Prop where
  none_ : manyOf L = 0 → cnt L 1 = 0
  one : manyOf L = 1 → cnt L 1 = (if single = 1 then 1 else 0)
theorem St.nil : St [] 0 := ⟨fun _ => rfl, fun h => by simp [manyOf] at h⟩
theorem cnt_snoc (x : Nat) (L : List Nat) : cnt (L ++ [x]) 1 = cnt L 1 + (if x = 1 then 1 else 0) := by
  rw [cnt_pos (by omega), cnt_pos (by omega), List.count_append]
  by_cases h : x = 1 <;> simp [h]
theorem St.zero {L : List Nat} {s : Nat} (h : St L s) : St (L ++ [0]) s := by
  have e : manyOf (L ++ [0]) = manyOf L := by rw [manyOf_snoc]; simp
  have e2 : cnt (L ++ [0]) 1 = cnt L 1 := by rw [cnt_snoc]; simp
  exact ⟨by rw [e, e2]; exact h.none_, by rw [e, e2]; exact h.one⟩
theorem St.pos {L : List Nat} {s x : Nat} (h : St L s) (hx : 0 < x) : St (L ++ [x]) x := by
  have e : manyOf (L ++ [x]) = manyOf L + 1 := by rw [manyOf_snoc, if_neg (by omega)]
  refine ⟨fun h2 => by omega, fun h2 => ?_⟩
  rw [cnt_snoc, h.none_ (by omega)]; simp
theorem St.whole {L : List Nat} {s : Nat} (h : St L s) (hL : ∀ x ∈ L, x ≤ 15) : wholeB L = (decide (kraft L = 32768) || (decide (manyOf L = 0) || (decide (manyOf L = 1) && decide (s = 1)))) := by
  unfold wholeB
  rw [sumK_kraft hL, ordlen_many hL]
  by_cases h1 : manyOf L = 1
  · have := h.one h1
    by_cases hs : s = 1
    · rw [if_pos hs] at this; simp [this, hs]
    · rw [if_neg hs] at this; simp [this, hs]
  · simp [h1]
theorem kraft_zero : ∀ {L : List Nat}, manyOf L = 0 → kraft L = 0
  | [], _ => rfl
  | x :: L, h => by
    rw [manyOf] at h
    by_cases h0 : x = 0
    · rw [kraft, if_pos h0, kraft_zero (by omega)]
    · rw [if_neg h0] at h; omega
theorem kraft_one : ∀ {L : List Nat}, manyOf L = 1 → kraft L ≤ 16384
  | [], _ => by decide
  | x :: L, h => by
    rw [manyOf] at h
    rw [kraft]
    by_cases h0 : x = 0
    · rw [if_pos h0] at h ⊢; have := kraft_one (L := L) (by omega); omega
    · rw [if_neg h0] at h ⊢
      rw [kraft_zero (L := L) (by omega)]
      have h2 : 2 ^ (15 - x) ≤ 16384 := Nat.le_trans (Nat.pow_le_pow_right (by decide) (by omega : 15 - x ≤ 14)) (by decide)
      omega
/-- is the symbol's code given when the walk stands at a length and a symbol? -/
def given (L : List Nat) (n i j : Nat) : Bool := decide (0 < L.getD j 0) && (decide (L.getD j 0 < n) || (decide (L.getD j 0 = n) && decide (j < i)))
/-- the codes as they are then -/
def codesAt (L : List Nat) (n i : Nat) : List Nat := (List.range L.length).map fun j => if given L n i j = true then codeOf L j else 0
theorem codesAt_length (L : List Nat) (n i : Nat) : (codesAt L n i).length = L.length := by simp [codesAt]
theorem codesAt_get {L : List Nat} {n i j : Nat} (h : j < L.length) : (codesAt L n i)[j]? = some (if given L n i j = true then codeOf L j else 0) := by
  simp [codesAt, h]
theorem codesAt_start (L : List Nat) : codesAt L 1 0 = List.replicate L.length 0 := by
  apply List.ext_getElem?
  intro j
  by_cases h : j < L.length
  · rw [codesAt_get h, List.getElem?_replicate, if_pos h]
    have : given L 1 0 j = false := by
      simp [given]; omega
    rw [this]; rfl
  · rw [List.getElem?_eq_none (by rw [codesAt_length]; omega), List.getElem?_eq_none (by simp; omega)]
theorem codesAt_miss {L : List Nat} {n i : Nat} (h : L.getD i 0 ≠ n) : codesAt L n (i + 1) = codesAt L n i := by
  unfold codesAt
  congr 1
  funext j
  have : given L n (i + 1) j = given L n i j := by
    unfold given
    by_cases hj : L.getD j 0 = n
    · have : j ≠ i := fun e => h (by rw [← e]; exact hj)
      have e2 : decide (j < i + 1) = decide (j < i) := by rw [decide_eq_decide]; omega
      rw [e2]
    · generalize L.getD j 0 = x at *; simp [hj]
  rw [this]
theorem codesAt_hit {L : List Nat} {n i : Nat} (hi : i < L.length) (hn : 0 < n) (h : L.getD i 0 = n) : codesAt L n (i + 1) = (codesAt L n i).set i (fst L n + (L.take i).count n) := by
  have hc : codeOf L i = fst L n + (L.take i).count n := by rw [codeOf_pos (by omega), h]
  rw [← hc]
  apply List.ext_getElem?
  intro j
  by_cases hj : j < L.length
  · rw [codesAt_get hj, List.getElem?_set, codesAt_length]
    by_cases e : i = j
    · subst e
      rw [if_pos rfl, if_pos hi]
      have : given L n (i + 1) i = true := by unfold given; rw [h]; simp; omega
      rw [this]; rfl
    · rw [if_neg e, codesAt_get hj]
      have : given L n (i + 1) j = given L n i j := by
        unfold given
        have e2 : decide (j < i + 1) = decide (j < i) := by rw [decide_eq_decide]; omega
        rw [e2]
      rw [this]
  · rw [List.getElem?_eq_none (by rw [codesAt_length]; omega), List.getElem?_eq_none (by rw [List.length_set, codesAt_length]; omega)]
theorem codesAt_level (L : List Nat) (n : Nat) : codesAt L n L.length = codesAt L (n + 1) 0 := by
  apply List.ext_getElem?
  intro j
  by_cases hj : j < L.length
  · rw [codesAt_get hj, codesAt_get hj]
    have : given L n L.length j = given L (n + 1) 0 j := by
      unfold given
      rw [Bool.eq_iff_iff]
      simp only [Bool.and_eq_true, Bool.or_eq_true, decide_eq_true_eq]
      omega
    rw [this]
  · rw [List.getElem?_eq_none (by rw [codesAt_length]; omega), List.getElem?_eq_none (by rw [codesAt_length]; omega)]
theorem codesAt_end {L : List Nat} (h : ∀ i, i < L.length → L.getD i 0 ≤ 15) : codesAt L 16 0 = codesOf L := by
  unfold codesAt codesOf
  apply List.map_congr_left
  intro j hj
  have hj := h j (by simpa using hj)
  by_cases h0 : L.getD j 0 = 0
  · have h1 : given L 16 0 j = false := by unfold given; rw [h0]; rfl
    have h2 : codeOf L j = 0 := by unfold codeOf; rw [if_pos h0]
    rw [h1, h2]; rfl
  · have h1 : given L 16 0 j = true := by
      unfold given
      simp only [Bool.and_eq_true, Bool.or_eq_true, decide_eq_true_eq]
      omega
    rw [h1]; rfl
theorem count_take_miss {L : List Nat} {n i : Nat} (hi : i < L.length) (h : L.getD i 0 ≠ n) : (L.take (i + 1)).count n = (L.take i).count n := by
  have e : L.getD i 0 = L[i] := by rw [List.getD_eq_getElem?_getD, List.getElem?_eq_getElem hi]; rfl
  rw [List.take_succ_eq_append_getElem hi, List.count_append, ← e]
  generalize L.getD i 0 = x at *
  simp [h]
theorem count_take_hit {L : List Nat} {n i : Nat} (hi : i < L.length) (h : L.getD i 0 = n) : (L.take (i + 1)).count n = (L.take i).count n + 1 := by
  have e : L.getD i 0 = L[i] := by rw [List.getD_eq_getElem?_getD, List.getElem?_eq_getElem hi]; rfl
  rw [List.take_succ_eq_append_getElem hi, List.count_append, ← e]
  generalize L.getD i 0 = x at *
  simp [h]
theorem getD_le_of_all {L : List Nat} (h : ∀ x ∈ L, x ≤ 15) : ∀ i, i < L.length → L.getD i 0 ≤ 15 := fun i hi => by
  rw [List.getD_eq_getElem?_getD, List.getElem?_eq_getElem hi]
  exact h _ (List.getElem_mem hi)
end Go.Proofs.Ytdfoimgckahjpaa
