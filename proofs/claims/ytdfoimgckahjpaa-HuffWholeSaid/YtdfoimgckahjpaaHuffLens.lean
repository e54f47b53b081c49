/-
  What Lengths makes, plainly: a table takes it, and it costs no more than equal lengths. No conditions.
-/
import Derived.Test.YtdfoimgckahjpaaHuffNode
import Derived.Test.YtdfoimgckahjpaaHuffCanon
import Derived.Test.YtdfoimgckahjpaaMay
namespace Go.Proofs.Ytdfoimgckahjpaa
open Go.RowKit
theorem kraft_map : ∀ L : List Nat, kraft L = (L.map fun x => if x = 0 then 0 else 2 ^ (15 - x)).sum
  | [] => rfl
  | x :: L => by rw [kraft, kraft_map L, List.map_cons, List.sum_cons]; omega
theorem many_map : ∀ L : List Nat, manyOf L = (L.map fun x => if x = 0 then 0 else 1).sum
  | [] => rfl
  | x :: L => by rw [manyOf, many_map L, List.map_cons, List.sum_cons]; omega
theorem map_range (g : Nat → Nat) (L : List Nat) : L.map g = (List.range L.length).map fun i => g (L.getD i 0) := by
  apply List.ext_getElem
  · simp
  · intro i h1 h2
    simp only [List.length_map] at h1
    simp [List.getD_eq_getElem?_getD, List.getElem?_eq_getElem h1]
theorem sum_filter (p : Nat → Bool) (f : Nat → Nat) : ∀ l : List Nat, (∀ x, x ∈ l → p x = false → f x = 0) → ((l.filter p).map f).sum = (l.map f).sum
  | [], _ => rfl
  | x :: l, h => by
    have h1 := sum_filter p f l (fun y hy => h y (List.mem_cons_of_mem _ hy))
    cases hp : p x with
    | true => rw [List.filter_cons_of_pos hp, List.map_cons, List.map_cons, List.sum_cons, List.sum_cons, h1]
    | false => rw [List.filter_cons_of_neg (by simp [hp]), h1, List.map_cons, List.sum_cons, h x (List.mem_cons_self ..) hp, Nat.zero_add]
theorem sum_ones : ∀ l : List Nat, (l.map fun _ => 1).sum = l.length
  | [] => rfl
  | x :: l => by rw [List.map_cons, List.sum_cons, sum_ones l, List.length_cons]; omega
theorem sum_zeros : ∀ l : List Nat, (l.map fun _ => 0).sum = 0
  | [] => rfl
  | x :: l => by rw [List.map_cons, List.sum_cons, sum_zeros l]
/-- what some lengths cost, up to a symbol -/
def costTo (L R : List Nat) (k : Nat) : Nat := ((List.range k).map fun i => L.getD i 0 * R.getD i 0).sum
def sumTo (L : List Nat) (k : Nat) : Nat := ((List.range k).map fun i => L.getD i 0).sum
theorem costTo_succ (L R : List Nat) (k : Nat) : costTo L R (k + 1) = costTo L R k + L.getD k 0 * R.getD k 0 := by
  unfold costTo; rw [List.range_succ, List.map_append, List.sum_append]; simp
theorem sumTo_succ (L : List Nat) (k : Nat) : sumTo L (k + 1) = sumTo L k + L.getD k 0 := by
  unfold sumTo; rw [List.range_succ, List.map_append, List.sum_append]; simp
theorem manyC_take (L : List Nat) : ∀ k, k ≤ L.length → manyC (L.take k) = (usedSyms L k).length
  | 0, _ => rfl
  | k + 1, h => by
    rw [List.take_succ_eq_append_getElem (by omega), manyC_snoc, usedSyms_succ, manyC_take L k (by omega)]
    rw [show L.getD k 0 = L[k] by rw [List.getD_eq_getElem?_getD, List.getElem?_eq_getElem (by omega)]; rfl]
    split <;> simp
theorem manyC_used (L : List Nat) : manyC L = (usedSyms L L.length).length := by
  have := manyC_take L L.length (Nat.le_refl _)
  rwa [List.take_length] at this
theorem used_mem {L : List Nat} {n s : Nat} : s ∈ usedSyms L n ↔ s < n ∧ 0 < L.getD s 0 := by
  unfold usedSyms
  rw [List.mem_filter, List.mem_range, decide_eq_true_iff]
theorem used_nodup (L : List Nat) (n : Nat) : (usedSyms L n).Nodup := List.Pairwise.filter _ List.nodup_range
/-- lengths as they are to be -/
structure Lensed (L : List Nat) (most : Nat) (R : List Nat) : Prop where
  len : R.length = L.length
  pos : ∀ i, i < L.length → (0 < R.getD i 0 ↔ 0 < L.getD i 0)
  most : ∀ i, R.getD i 0 ≤ most
  whole : wholeB R = true
  cost : ∀ k, 1 ≤ k → manyC L ≤ 2 ^ k → (k = 1 ∨ 2 ^ (k - 1) < manyC L) → costTo L R L.length ≤ k * sumTo L L.length
section
variable {L Z R : List Nat} {most : Nat}
theorem over_used (hp : Z.Perm (usedSyms L L.length)) (f : Nat → Nat) (h : ∀ i, i < L.length → L.getD i 0 = 0 → f i = 0) : ((List.range L.length).map f).sum = (Z.map f).sum := by
  rw [perm_sum (hp.map f)]
  exact (sum_filter _ f _ (fun x hx h0 => h x (List.mem_range.1 hx) (by simpa using h0))).symm
theorem kraft_used (hp : Z.Perm (usedSyms L L.length)) (hr : R.length = L.length) (hpos : ∀ s, s ∈ Z → 0 < R.getD s 0) (hz : ∀ s, s ∉ Z → R.getD s 0 = 0) : kraft R = (Z.map fun s => 2 ^ (15 - R.getD s 0)).sum := by
  rw [kraft_map, map_range, hr, over_used hp]
  · exact sum_congr fun s hs => by rw [if_neg (by have := hpos s hs; omega)]
  · intro i hi h0
    rw [if_pos (hz i (fun e => by have := (used_mem.1 (hp.mem_iff.1 e)).2; omega))]
theorem many_used (hp : Z.Perm (usedSyms L L.length)) (hr : R.length = L.length) (hpos : ∀ s, s ∈ Z → 0 < R.getD s 0) (hz : ∀ s, s ∉ Z → R.getD s 0 = 0) : manyOf R = Z.length := by
  rw [many_map, map_range, hr, over_used hp]
  · rw [sum_congr (g := fun _ => 1) fun s hs => by rw [if_neg (by have := hpos s hs; omega)]]
    exact sum_ones Z
  · intro i hi h0
    rw [if_pos (hz i (fun e => by have := (used_mem.1 (hp.mem_iff.1 e)).2; omega))]
theorem Lensed.of (hp : Z.Perm (usedSyms L L.length)) (hr : R.length = L.length) (hpos : ∀ s, s ∈ Z → 0 < R.getD s 0) (hz : ∀ s, s ∉ Z → R.getD s 0 = 0) (hm : ∀ s, s ∈ Z → R.getD s 0 ≤ most) (hW : wholeB R = true)
    (hc : ∀ k, 1 ≤ k → Z.length ≤ 2 ^ k → (k = 1 ∨ 2 ^ (k - 1) < Z.length) → (Z.map fun s => L.getD s 0 * R.getD s 0).sum ≤ k * (Z.map fun s => L.getD s 0).sum) : Lensed L most R := by
  refine ⟨hr, fun i hi => ⟨fun h => ?_, fun h => hpos i (hp.mem_iff.2 (used_mem.2 ⟨hi, h⟩))⟩, fun i => ?_, hW, fun k h1 h2 h3 => ?_⟩
  · by_cases e : i ∈ Z
    · exact (used_mem.1 (hp.mem_iff.1 e)).2
    · have := hz i e; omega
  · by_cases e : i ∈ Z
    · exact hm i e
    · have := hz i e; omega
  · rw [manyC_used, ← hp.length_eq] at h2 h3
    have := hc k h1 h2 h3
    unfold costTo sumTo
    rw [over_used hp (fun i => L.getD i 0 * R.getD i 0) (fun i _ h => by rw [h, Nat.zero_mul]), over_used hp (fun i => L.getD i 0) (fun i _ h => h)]
    exact this
theorem getD_zeros (n s : Nat) : (List.replicate n 0).getD s 0 = 0 := by
  rw [List.getD_eq_getElem?_getD, List.getElem?_replicate]; split <;> rfl
theorem le_of_getD (h15 : ∀ s, R.getD s 0 ≤ 15) : ∀ x, x ∈ R → x ≤ 15 := fun x hx => by
  obtain ⟨i, hi, rfl⟩ := List.getElem_of_mem hx
  have := h15 i
  rwa [List.getD_eq_getElem?_getD, List.getElem?_eq_getElem hi] at this
theorem lens_none (hp : [].Perm (usedSyms L L.length)) : Lensed L most (List.replicate L.length 0) := by
  have h0 := getD_zeros L.length
  have hr : (List.replicate L.length 0).length = L.length := List.length_replicate
  refine Lensed.of hp hr (fun s hs => by cases hs) (fun s _ => h0 s) (fun s hs => by cases hs) ?_ (fun k _ _ _ => by simp)
  have := many_used hp hr (fun s hs => by cases hs) (fun s _ => h0 s)
  unfold wholeB
  rw [ordlen_many (le_of_getD fun s => by rw [h0]; omega), this]
  simp
theorem lens_one {s : Nat} (hp : [s].Perm (usedSyms L L.length)) (h1 : 1 ≤ most) : Lensed L most ((List.replicate L.length 0).set s 1) := by
  have hs := (used_mem.1 (hp.mem_iff.1 (List.mem_singleton.2 rfl))).1
  have h0 : ∀ x, ((List.replicate L.length 0).set s 1).getD x 0 = if x = s then 1 else 0 := fun x => by
    rw [getD_set_n (by rw [List.length_replicate]; exact hs), getD_zeros]
  have hr : ((List.replicate L.length 0).set s 1).length = L.length := by rw [List.length_set, List.length_replicate]
  generalize ((List.replicate L.length 0).set s 1) = R at *
  have hpos : ∀ x, x ∈ [s] → R.getD x 0 = 1 := fun x hx => by rw [h0, if_pos (List.mem_singleton.1 hx)]
  have hz : ∀ x, x ∉ [s] → R.getD x 0 = 0 := fun x hx => by rw [h0, if_neg (fun e => hx (List.mem_singleton.2 e))]
  have h15 : ∀ x, x ∈ R → x ≤ 15 := le_of_getD fun x => by rw [h0]; split <;> omega
  refine Lensed.of hp hr (fun x hx => by rw [hpos x hx]; omega) hz (fun x hx => by rw [hpos x hx]; exact h1) ?_ (fun k hk _ _ => ?_)
  · have hm := many_used hp hr (fun x hx => by rw [hpos x hx]; omega) hz
    have hk := kraft_used hp hr (fun x hx => by rw [hpos x hx]; omega) hz
    have hc : cnt R 1 = 1 := by
      have e1 : sumK R 15 = kraft R := sumK_kraft h15
      have e2 := ordlen_many h15
      rw [hm] at e2
      rw [cnt_pos (by omega)]
      have e3 : R.count 1 = (R.map fun x => if x = 0 then 0 else 1).sum := by
        have : ∀ M : List Nat, (∀ x, x ∈ M → x ≤ 1) → M.count 1 = (M.map fun x => if x = 0 then 0 else 1).sum := by
          intro M
          induction M with
          | nil => intro _; rfl
          | cons y M ih =>
            intro hM
            rw [List.count_cons, ih (fun x hx => hM x (List.mem_cons_of_mem _ hx)), List.map_cons, List.sum_cons]
            have := hM y (List.mem_cons_self ..)
            by_cases hy : y = 0
            · subst hy; simp
            · obtain rfl : y = 1 := by omega
              simp; omega
        refine this R (fun x hx => ?_)
        obtain ⟨i, hi, rfl⟩ := List.getElem_of_mem hx
        have := h0 i
        rw [List.getD_eq_getElem?_getD, List.getElem?_eq_getElem hi] at this
        simp only [Option.getD_some] at this
        rw [this]; split <;> omega
      rw [e3, ← many_map, hm]; rfl
    unfold wholeB
    rw [ordlen_many h15, hm, hc]
    simp
  · simp only [List.map_cons, List.map_nil, List.sum_cons, List.sum_nil, hpos s (List.mem_singleton.2 rfl), Nat.add_zero]
    have := Nat.mul_le_mul_right (L.getD s 0) hk
    omega
theorem whole_of (hp : Z.Perm (usedSyms L L.length)) (hr : R.length = L.length) (hpos : ∀ s, s ∈ Z → 0 < R.getD s 0) (hz : ∀ s, s ∉ Z → R.getD s 0 = 0) (h15 : ∀ s, s ∈ Z → R.getD s 0 ≤ 15) (hK : (Z.map fun s => 2 ^ (15 - R.getD s 0)).sum = 32768) : wholeB R = true := by
  have hle : ∀ x, x ∈ R → x ≤ 15 := le_of_getD fun s => by
    by_cases e : s ∈ Z
    · exact h15 s e
    · rw [hz s e]; omega
  unfold wholeB
  rw [sumK_kraft hle, kraft_used hp hr hpos hz, hK]
  simp
theorem sum_mem_le {f : Nat → Nat} : ∀ {l : List Nat} {a b : Nat}, l.Nodup → a ∈ l → b ∈ l → a ≠ b → f a + f b ≤ (l.map f).sum
  | x :: l, a, b, hd, ha, hb, hne => by
    obtain ⟨_, h2⟩ := List.nodup_cons.1 hd
    rw [List.map_cons, List.sum_cons]
    have one : ∀ {l : List Nat} {c : Nat}, c ∈ l → f c ≤ (l.map f).sum := by
      intro l
      induction l with
      | nil => intro c h; cases h
      | cons y l ih =>
        intro c h
        rw [List.map_cons, List.sum_cons]
        rcases List.mem_cons.1 h with rfl | e
        · omega
        · have := ih e; omega
    rcases List.mem_cons.1 ha with rfl | e1
    · rcases List.mem_cons.1 hb with rfl | e2
      · exact absurd rfl hne
      · have := one e2; omega
    · rcases List.mem_cons.1 hb with rfl | e2
      · have := one e1; omega
      · have := sum_mem_le (f := f) h2 e1 e2 hne; omega
theorem other_mem (hd : Z.Nodup) (h2 : 2 ≤ Z.length) (s : Nat) : ∃ t, t ∈ Z ∧ s ≠ t := by
  match Z, hd, h2 with
  | a :: b :: r, hd, _ =>
    by_cases e : s = a
    · refine ⟨b, by simp, fun e2 => ?_⟩
      have := (List.nodup_cons.1 hd).1
      exact this (by rw [← e, e2]; exact List.mem_cons_self ..)
    · exact ⟨a, by simp, e⟩
theorem sum_scale {f : Nat → Nat} (c : Nat) : ∀ l : List Nat, (l.map fun s => c * f s).sum = c * (l.map f).sum
  | [] => rfl
  | x :: l => by rw [List.map_cons, List.map_cons, List.sum_cons, List.sum_cons, sum_scale c l, Nat.mul_add]
/-- what the merges leave -/
theorem best_facts (hp : Z.Perm (usedSyms L L.length)) (ha : Asc (fun s => L.getD s 0) Z) (h2 : 2 ≤ Z.length) (hR : R = bestO Z.length (nodes0 (fun s => L.getD s 0) Z) (List.replicate L.length 0)) :
    R.length = L.length ∧ (∀ s, s ∈ Z → 0 < R.getD s 0) ∧ (∀ s, s ∉ Z → R.getD s 0 = 0) ∧ ((∀ s, s ∈ Z → R.getD s 0 ≤ 15) → (Z.map fun s => 2 ^ (15 - R.getD s 0)).sum = 32768) ∧
      (∀ k, Z.length ≤ 2 ^ k → (Z.map fun s => L.getD s 0 * R.getD s 0).sum ≤ k * (Z.map fun s => L.getD s 0).sum) ∧ ∀ x, x ∈ R → x ≤ Z.length := by
  have hd : Z.Nodup := hp.nodup_iff.2 (used_nodup L _)
  obtain ⟨N, hN⟩ : ∃ N, Z.length + 15 = N := ⟨_, rfl⟩
  have hst := Good.start (cs := fun s => L.getD s 0) (N := N) (n := L.length) ha
  have hln : (nodes0 (fun s => L.getD s 0) Z).length = Z.length := by simp [nodes0]
  obtain ⟨e1, ⟨nd, e2⟩, e3⟩ := Good.all (cs := fun s => L.getD s 0) (N := N) hd (by omega) Z.length _ (List.replicate L.length 0) (by omega) (by omega) (fun s hs => by rw [List.length_replicate]; exact (used_mem.1 (hp.mem_iff.1 hs)).1) hst
  rw [← hR] at e1 e2 e3
  clear hR
  have hpm : nd.2.Perm Z := by simpa using e2.perm
  obtain ⟨_, _, f3, f4⟩ := e2.node nd (List.mem_singleton.2 rfl)
  rw [perm_sum (hpm.map _)] at f4
  have hle : ∀ s, s ∈ Z → R.getD s 0 + 1 ≤ Z.length := fun s hs => by
    have := f3 s (hpm.mem_iff.2 hs)
    rwa [hpm.length_eq] at this
  refine ⟨by rw [e1, List.length_replicate], fun s hs => ?_, e2.zero, fun h15 => ?_, fun k hk => ?_, fun x hx => ?_⟩
  · refine Nat.pos_of_ne_zero fun h0 => ?_
    obtain ⟨t, ht, hne⟩ := other_mem hd h2 s
    have h9 := sum_mem_le (f := fun s => 2 ^ (N - R.getD s 0)) hd hs ht hne
    rw [f4] at h9
    simp only [h0, Nat.sub_zero] at h9
    have : 0 < 2 ^ (N - R.getD t 0) := Nat.pow_pos (by decide)
    omega
  · have hs : (Z.map fun s => 2 ^ (N - R.getD s 0)).sum = 2 ^ (N - 15) * (Z.map fun s => 2 ^ (15 - R.getD s 0)).sum := by
      rw [← sum_scale]
      exact sum_congr fun s hs => by
        have := h15 s hs
        rw [← Nat.pow_add, show N - 15 + (15 - R.getD s 0) = N - R.getD s 0 by omega]
    rw [f4, show (2 : Nat) ^ N = 2 ^ (N - 15) * 32768 by rw [show (32768 : Nat) = 2 ^ 15 from rfl, ← Nat.pow_add, show N - 15 + 15 = N by omega]] at hs
    exact (Nat.eq_of_mul_eq_mul_left (Nat.pow_pos (by decide)) hs).symm
  · have hw : (nodes0 (fun s => L.getD s 0) Z).map Prod.fst = Z.map fun s => L.getD s 0 := by simp [nodes0]
    rw [hw] at e3
    have hsrt : (Z.map fun s => L.getD s 0).Pairwise (· ≤ ·) := List.pairwise_map.2 ha
    have hcw := costW_le k Z.length _ hsrt (by rw [List.length_map]; exact hk) (by rw [List.length_map]; omega)
    have hz0 : (Z.map fun s => L.getD s 0 * (List.replicate L.length 0).getD s 0).sum = 0 := by
      rw [sum_congr (g := fun _ => 0) fun s _ => by rw [getD_zeros, Nat.mul_zero]]; exact sum_zeros Z
    rw [hz0] at e3
    omega
  · obtain ⟨i, hi, rfl⟩ := List.getElem_of_mem hx
    by_cases e : i ∈ Z
    · have := hle i e
      rw [List.getD_eq_getElem?_getD, List.getElem?_eq_getElem hi] at this
      exact Nat.le_of_succ_le this
    · have := e2.zero i e
      rw [List.getD_eq_getElem?_getD, List.getElem?_eq_getElem hi] at this
      simp only [Option.getD_some] at this
      rw [this]; exact Nat.zero_le _
theorem lens_best (hp : Z.Perm (usedSyms L L.length)) (ha : Asc (fun s => L.getD s 0) Z) (h2 : 2 ≤ Z.length) (hR : R = bestO Z.length (nodes0 (fun s => L.getD s 0) Z) (List.replicate L.length 0)) (hm : ∀ x, x ∈ R → x ≤ most) (h15 : most ≤ 15) : Lensed L most R := by
  obtain ⟨f1, f2, f3, f4, f5, _⟩ := best_facts hp ha h2 hR
  have hle : ∀ s, s ∈ Z → R.getD s 0 ≤ most := fun s hs => by
    have hl : s < R.length := by rw [f1]; exact (used_mem.1 (hp.mem_iff.1 hs)).1
    exact hm _ (by rw [List.getD_eq_getElem?_getD, List.getElem?_eq_getElem hl]; exact List.getElem_mem hl)
  have hle2 : ∀ s, s ∈ Z → R.getD s 0 ≤ 15 := fun s hs => Nat.le_trans (hle s hs) h15
  exact Lensed.of hp f1 f2 f3 hle (whole_of hp f1 f2 f3 hle2 (f4 hle2)) (fun k _ h _ => f5 k h)
theorem getD_inj (hd : Z.Nodup) {i j : Nat} (hi : i < Z.length) (hj : j < Z.length) (h : Z.getD i 0 = Z.getD j 0) : i = j := by
  rw [List.getD_eq_getElem?_getD, List.getElem?_eq_getElem hi, List.getD_eq_getElem?_getD, List.getElem?_eq_getElem hj] at h
  exact (List.getElem_inj hd).1 h
theorem flatO_out {m k : Nat} {O : List Nat} {s : Nat} (hs : s ∉ Z) (hz : ∀ x, x ∈ Z → x < O.length) : ∀ j, j ≤ Z.length → (flatO m k Z O j).getD s 0 = O.getD s 0
  | 0, _ => rfl
  | j + 1, h => by
    have hm : Z.getD j 0 ∈ Z := by rw [List.getD_eq_getElem?_getD, List.getElem?_eq_getElem (by omega)]; exact List.getElem_mem _
    rw [flatO, getD_set_n (by rw [flatO_length]; exact hz _ hm), if_neg (fun e => hs (by rw [e]; exact hm)), flatO_out hs hz j (by omega)]
theorem flatO_at {m k : Nat} {O : List Nat} (hd : Z.Nodup) (hz : ∀ x, x ∈ Z → x < O.length) : ∀ j, j ≤ Z.length → ∀ i, i < j → (flatO m k Z O j).getD (Z.getD i 0) 0 = flatV m k i
  | 0, _, _, h => by omega
  | j + 1, h, i, hi => by
    have hm : Z.getD j 0 ∈ Z := by rw [List.getD_eq_getElem?_getD, List.getElem?_eq_getElem (by omega)]; exact List.getElem_mem _
    rw [flatO, getD_set_n (by rw [flatO_length]; exact hz _ hm)]
    by_cases e : i = j
    · rw [e, if_pos rfl]
    · rw [if_neg (fun e2 => e (getD_inj hd (by omega) (by omega) e2)), flatO_at hd hz j (by omega) i (by omega)]
theorem sum_below (q a b : Nat) : ∀ m, m ≤ q → ((List.range m).map fun i => if q ≤ i then a else b).sum = m * b
  | 0, _ => by simp
  | m + 1, h => by
    rw [List.range_succ, List.map_append, List.sum_append, sum_below q a b m (by omega), Nat.add_mul]
    simp only [List.map_cons, List.map_nil, List.sum_cons, List.sum_nil]
    rw [if_neg (by omega)]; omega
theorem sum_above (q a b : Nat) : ∀ d, ((List.range (q + d)).map fun i => if q ≤ i then a else b).sum = q * b + d * a
  | 0 => by rw [Nat.add_zero, sum_below q a b q (Nat.le_refl _)]; omega
  | d + 1 => by
    rw [← Nat.add_assoc, List.range_succ, List.map_append, List.sum_append, sum_above q a b d, Nat.add_mul]
    simp only [List.map_cons, List.map_nil, List.sum_cons, List.sum_nil]
    rw [if_pos (by omega)]; omega
theorem lens_flat {k : Nat} {O : List Nat} (hp : Z.Perm (usedSyms L L.length)) (h2 : 2 ≤ Z.length) (hO : O.length = L.length) (hO0 : ∀ s, s ∉ Z → O.getD s 0 = 0) (hk1 : 1 ≤ k) (hk2 : k = 1 ∨ 2 ^ (k - 1) < Z.length) (hk3 : Z.length ≤ 2 ^ k) (hm : Z.length ≤ 2 ^ most) (hm1 : 1 ≤ most) (h15 : most ≤ 15) : Lensed L most (flatO Z.length k Z O Z.length) := by
  have hd : Z.Nodup := hp.nodup_iff.2 (used_nodup L _)
  have hzl : ∀ x, x ∈ Z → x < O.length := fun x hx => by rw [hO]; exact (used_mem.1 (hp.mem_iff.1 hx)).1
  have hout := fun s (hs : s ∉ Z) => (flatO_out (m := Z.length) (k := k) hs hzl Z.length (Nat.le_refl _)).trans (hO0 s hs)
  have hat := flatO_at (m := Z.length) (k := k) hd hzl Z.length (Nat.le_refl _)
  have hlen : (flatO Z.length k Z O Z.length).length = L.length := by rw [flatO_length, hO]
  generalize flatO Z.length k Z O Z.length = R at *
  have hkm : k ≤ most := by
    rcases hk2 with e | e
    · omega
    · rcases Nat.lt_or_ge most k with h | h
      · have : 2 ^ most ≤ 2 ^ (k - 1) := Nat.pow_le_pow_right (by decide) (by omega)
        omega
      · exact h
  have hv : ∀ i, flatV Z.length k i ≤ k ∧ 1 ≤ flatV Z.length k i := fun i => by unfold flatV; split <;> omega
  have hall : ∀ s, s ∈ Z → R.getD s 0 ≤ k ∧ 1 ≤ R.getD s 0 := fun s hs => by
    obtain ⟨i, hi, rfl⟩ := List.getElem_of_mem hs
    have := hat i hi
    rw [List.getD_eq_getElem?_getD (l := Z), List.getElem?_eq_getElem hi] at this
    simp only [Option.getD_some] at this
    rw [this]; exact hv i
  have hpos : ∀ s, s ∈ Z → 0 < R.getD s 0 := fun s hs => (hall s hs).2
  refine Lensed.of hp hlen hpos hout (fun s hs => Nat.le_trans (hall s hs).1 hkm) (whole_of hp hlen hpos hout (fun s hs => by have := (hall s hs).1; omega) ?_) (fun j hj1 hj2 hj3 => ?_)
  · rw [map_range, show ((List.range Z.length).map fun i => 2 ^ (15 - R.getD (Z.getD i 0) 0)) = (List.range Z.length).map fun i => 2 ^ (15 - flatV Z.length k i) from List.map_congr_left fun i hi => by rw [hat i (List.mem_range.1 hi)]]
    generalize Z.length = m at *
    by_cases hk9 : k = 1
    · subst hk9
      obtain rfl : m = 2 := by omega
      decide
    · have hk5 : 1 < k := by omega
      have e : 2 ^ (k - 1) < m := by rcases hk2 with e | e; exact absurd e hk9; exact e
      have hP : 2 ^ k = 2 * 2 ^ (k - 1) := by rw [← Nat.pow_succ']; congr 1; omega
      have hQ : (2 : Nat) ^ (15 - (k - 1)) = 2 * 2 ^ (15 - k) := by rw [← Nat.pow_succ']; congr 1; omega
      have hR : (32768 : Nat) = 2 ^ k * 2 ^ (15 - k) := by rw [← Nat.pow_add, show k + (15 - k) = 15 by omega]
      obtain ⟨q, hq⟩ : ∃ q, m - (2 ^ k - m) = q := ⟨_, rfl⟩
      have hf : (fun i => 2 ^ (15 - flatV m k i)) = fun i => if q ≤ i then 2 ^ (15 - (k - 1)) else 2 ^ (15 - k) := by
        funext i
        unfold flatV
        rw [hq]
        by_cases h : q ≤ i
        · rw [if_pos ⟨h, hk5⟩, if_pos h]
        · rw [if_neg (fun e => h e.1), if_neg h]
      obtain ⟨d, hd2⟩ : ∃ d, m = q + d := ⟨m - q, by omega⟩
      rw [hf, hd2, sum_above, hQ, hR]
      have h3 : q + d * 2 = 2 ^ k := by omega
      rw [← h3, Nat.add_mul]
      generalize 2 ^ (15 - k) = P
      rw [Nat.mul_assoc]
  · have hjk : j = k := by
      rcases Nat.lt_trichotomy j k with h | h | h
      · rcases hk2 with e | e
        · omega
        · have : 2 ^ j ≤ 2 ^ (k - 1) := Nat.pow_le_pow_right (by decide) (by omega)
          omega
      · exact h
      · rcases hj3 with e | e
        · omega
        · have : 2 ^ k ≤ 2 ^ (j - 1) := Nat.pow_le_pow_right (by decide) (by omega)
          omega
    subst hjk
    have : ∀ l : List Nat, (∀ s, s ∈ l → R.getD s 0 ≤ j) → (l.map fun s => L.getD s 0 * R.getD s 0).sum ≤ j * (l.map fun s => L.getD s 0).sum := by
      intro l
      induction l with
      | nil => intro _; simp
      | cons x l ih =>
        intro h
        have h1 := ih (fun s hs => h s (List.mem_cons_of_mem _ hs))
        have h2 := Nat.mul_le_mul_left (L.getD x 0) (h x (List.mem_cons_self ..))
        simp only [List.map_cons, List.sum_cons, Nat.mul_add]
        rw [Nat.mul_comm j (L.getD x 0)]
        omega
    exact this Z (fun s hs => (hall s hs).1)
end
end Go.Proofs.Ytdfoimgckahjpaa
