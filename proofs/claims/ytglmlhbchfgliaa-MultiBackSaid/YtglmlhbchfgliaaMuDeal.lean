/-
  Numbers that are dealt to links in their order; a datagram's pieces. No conditions.
-/
import Derived.Test.YtglmlhbchfgliaaMuSpread
import Derived.Test.YtglmlhbchfgliaaMuFrag
namespace Go.Proofs.Ytglmlhbchfgliaa
open Go.RowKit Go.Maps
def sumN (f : Nat → Nat) : Nat → Nat
  | 0 => 0
  | n + 1 => sumN f n + f n
theorem sumN_le {f g : Nat → Nat} : ∀ {n : Nat}, (∀ i, i < n → f i ≤ g i) → sumN f n ≤ sumN g n
  | 0, _ => Nat.le_refl _
  | n + 1, h => Nat.add_le_add (sumN_le (fun i hi => h i (by omega))) (h n (by omega))
theorem sumN_congr {f g : Nat → Nat} : ∀ {n : Nat}, (∀ i, i < n → f i = g i) → sumN f n = sumN g n
  | 0, _ => rfl
  | n + 1, h => by rw [sumN, sumN, sumN_congr (fun i hi => h i (by omega)), h n (by omega)]
theorem sumN_upd {f : Nat → Nat} {k : Nat} : ∀ {n : Nat}, k < n → sumN (fun i => if i = k then f i + 1 else f i) n = sumN f n + 1
  | 0, h => by omega
  | n + 1, h => by
    rw [sumN, sumN]
    by_cases hk : k = n
    · subst hk
      rw [if_pos rfl, sumN_congr (g := f) (fun i hi => if_neg (by omega))]
      omega
    · rw [sumN_upd (by omega), if_neg (by omega)]
      omega
theorem sumN_zero : ∀ {n : Nat}, sumN (fun _ => 0) n = 0
  | 0 => rfl
  | n + 1 => by rw [sumN, sumN_zero]
theorem sumN_one {f : Nat → Nat} {k : Nat} : ∀ {n : Nat}, k < n → f k ≤ sumN f n
  | 0, h => by omega
  | n + 1, h => by
    rw [sumN]
    by_cases hk : k = n
    · subst hk; omega
    · have := sumN_one (f := f) (show k < n by omega); omega
/-- the numbers below T, dealt: idx i are those of link i -/
structure Deal (links T : Nat) (idx : Nat → List Nat) (lk : Nat → Nat) : Prop where
  inn : ∀ i m, i < links → m ∈ idx i → m < T ∧ lk m = i
  cov : ∀ m, m < T → lk m < links ∧ m ∈ idx (lk m)
  asc : ∀ i, i < links → (idx i).Pairwise (· < ·)
  sum : sumN (fun i => (idx i).length) links = T
theorem Deal.nil {links : Nat} : Deal links 0 (fun _ => []) (fun _ => 0) :=
  ⟨fun _ _ _ h => (by cases h), fun m h => by omega, fun _ _ => List.Pairwise.nil, by simp [sumN_zero]⟩
section
variable {links T : Nat} {idx : Nat → List Nat} {lk : Nat → Nat}
theorem Deal.snoc (h : Deal links T idx lk) {k : Nat} (hk : k < links) : Deal links (T + 1) (fun i => if i = k then idx i ++ [T] else idx i) (fun m => if m = T then k else lk m) := by
  refine ⟨fun i m hi hm => ?_, fun m hm => ?_, fun i hi => ?_, ?_⟩
  · by_cases hik : i = k
    · subst hik
      rw [if_pos rfl] at hm
      rcases List.mem_append.1 hm with e | e
      · obtain ⟨h1, h2⟩ := h.inn i m hi e
        rw [if_neg (by omega)]
        exact ⟨by omega, h2⟩
      · rw [List.mem_singleton] at e
        subst e
        exact ⟨by omega, if_pos rfl⟩
    · rw [if_neg hik] at hm
      obtain ⟨h1, h2⟩ := h.inn i m hi hm
      rw [if_neg (by omega)]
      exact ⟨by omega, h2⟩
  · by_cases hmT : m = T
    · subst hmT
      rw [if_pos rfl, if_pos rfl]
      exact ⟨hk, by simp⟩
    · rw [if_neg hmT]
      obtain ⟨h1, h2⟩ := h.cov m (by omega)
      refine ⟨h1, ?_⟩
      split
      · exact List.mem_append_left _ h2
      · exact h2
  · split
    · rename_i hik
      subst hik
      rw [List.pairwise_append]
      refine ⟨h.asc i hi, List.pairwise_singleton _ _, fun a ha b hb => ?_⟩
      rw [List.mem_singleton] at hb
      have := (h.inn i a hi ha).1
      omega
    · exact h.asc i hi
  · rw [← h.sum, ← sumN_upd (f := fun i => (idx i).length) hk]
    refine sumN_congr (fun i _ => ?_)
    split <;> simp
/-- the number m has come, where link i has brought its first ks i -/
def addS (T : Nat) (idx : Nat → List Nat) (lk ks : Nat → Nat) (m : Nat) : Bool := decide (m < T) && decide (m ∈ (idx (lk m)).take (ks (lk m)))
theorem addS_iff {ks : Nat → Nat} {m : Nat} : addS T idx lk ks m = true ↔ m < T ∧ m ∈ (idx (lk m)).take (ks (lk m)) := by simp [addS]
/-- of two numbers in an ascending row the lesser one stands ahead -/
theorem asc_take {l : List Nat} (h : l.Pairwise (· < ·)) {m m' k : Nat} (hm : m ∈ l) (hm' : m' ∈ l.take k) (hlt : m < m') : m ∈ l.take k := by
  obtain ⟨i, hi⟩ := List.mem_iff_getElem?.1 hm
  obtain ⟨j, hj⟩ := List.mem_iff_getElem?.1 hm'
  rw [List.getElem?_take] at hj
  split at hj
  · rename_i hjk
    by_cases hik : i < k
    · exact List.mem_iff_getElem?.2 ⟨i, by rw [List.getElem?_take, if_pos hik]; exact hi⟩
    · obtain ⟨h1, e1⟩ := List.getElem?_eq_some_iff.1 hi
      obtain ⟨h2, e2⟩ := List.getElem?_eq_some_iff.1 hj
      have := List.pairwise_iff_getElem.1 h j i h2 h1 (by omega)
      omega
  · cases hj
theorem Deal.dealt (h : Deal links T idx lk) {P : List Pc} (hP : P.length = T) (hT : T ≤ 60) (h0 : 0 < links) (ks : Nat → Nat) : Dealt P links lk (addS T idx lk ks) := by
  refine ⟨h0, by omega, fun m hm => by rw [hP]; exact (addS_iff.1 hm).1, fun m hm => (h.cov m (by omega)).1, fun m m' h1 h2 h3 h4 => ?_⟩
  obtain ⟨h5, h6⟩ := addS_iff.1 h4
  obtain ⟨h7, h8⟩ := h.cov m (by omega)
  rw [← h3] at h6
  exact addS_iff.2 ⟨by omega, asc_take (h.asc _ h7) h8 h6 h1⟩
theorem Deal.none : addS T idx lk (fun _ => 0) = fun _ => false := by funext m; simp [addS]
theorem Deal.all (h : Deal links T idx lk) {ks : Nat → Nat} (hk : ∀ i, i < links → (idx i).length ≤ ks i) : ∀ m, m < T → addS T idx lk ks m = true := fun m hm => by
  obtain ⟨h1, h2⟩ := h.cov m hm
  exact addS_iff.2 ⟨hm, by rw [List.take_of_length_le (hk _ h1)]; exact h2⟩
/-- a link brings its next number -/
theorem Deal.next (h : Deal links T idx lk) {ks : Nat → Nat} {i n : Nat} (hi : i < links) (hn : (idx i)[ks i]? = some n) :
    n < T ∧ lk n = i ∧ addS T idx lk ks n = false ∧ (∀ m, m < n → lk m = lk n → addS T idx lk ks m = true) ∧ addS T idx lk (fun j => if j = i then ks j + 1 else ks j) = fun m => addS T idx lk ks m || decide (m = n) := by
  have hm : n ∈ idx i := List.mem_iff_getElem?.2 ⟨_, hn⟩
  obtain ⟨h1, h2⟩ := h.inn i n hi hm
  obtain ⟨h3, h4⟩ := List.getElem?_eq_some_iff.1 hn
  have has := List.pairwise_iff_getElem.1 (h.asc i hi)
  have hno : ¬ n ∈ (idx i).take (ks i) := fun hc => by
    obtain ⟨j, hj⟩ := List.mem_iff_getElem?.1 hc
    rw [List.getElem?_take] at hj
    split at hj
    · rename_i hjk
      obtain ⟨h5, h6⟩ := List.getElem?_eq_some_iff.1 hj
      have := has j (ks i) h5 h3 hjk
      omega
    · cases hj
  refine ⟨h1, h2, ?_, fun m hlt hl => ?_, ?_⟩
  · cases ha : addS T idx lk ks n with
    | false => rfl
    | true => rw [addS_iff, h2] at ha; exact absurd ha.2 hno
  · rw [h2] at hl
    obtain ⟨h5, h6⟩ := h.cov m (by omega)
    rw [hl] at h6
    refine addS_iff.2 ⟨by omega, ?_⟩
    rw [hl]
    obtain ⟨j, hj⟩ := List.mem_iff_getElem?.1 h6
    obtain ⟨h7, h8⟩ := List.getElem?_eq_some_iff.1 hj
    rcases Nat.lt_or_ge j (ks i) with hlt2 | hge
    · exact List.mem_iff_getElem?.2 ⟨j, by rw [List.getElem?_take, if_pos hlt2]; exact hj⟩
    · rcases Nat.eq_or_lt_of_le hge with e | e
      · subst e; omega
      · have := has (ks i) j h3 h7 e; omega
  · funext m
    rw [Bool.eq_iff_iff, Bool.or_eq_true, decide_eq_true_eq, addS_iff, addS_iff]
    by_cases hl : lk m = i
    · rw [hl, if_pos rfl, List.take_succ_eq_append_getElem h3, h4]
      simp only [List.mem_append, List.mem_singleton]
      constructor
      · rintro ⟨e1, e2 | e2⟩
        · exact Or.inl ⟨e1, e2⟩
        · exact Or.inr e2
      · rintro (⟨e1, e2⟩ | e)
        · exact ⟨e1, Or.inl e2⟩
        · exact ⟨by omega, Or.inr e⟩
    · rw [if_neg hl]
      constructor
      · exact fun e => Or.inl e
      · rintro (e | e)
        · exact e
        · subst e; exact absurd h2 hl
theorem Deal.few (h : Deal links T idx lk) {i : Nat} (hi : i < links) : (idx i).length ≤ T := by rw [← h.sum]; exact sumN_one (f := fun i => (idx i).length) hi
theorem Deal.bound (h : Deal links T idx lk) {ks : Nat → Nat} (hk : ∀ i, i < links → ks i ≤ (idx i).length) : sumN ks links ≤ T := by
  rw [← h.sum]; exact sumN_le hk
end
theorem Grams.most : ∀ {G : List (List Pc)} {D : List (List UInt8)}, Grams G D → ∀ x ∈ D, x.length ≤ 4096
  | [], [], _, x, hx => by cases hx
  | _ :: _, D :: q, h, x, hx => by
    rcases List.mem_cons.1 hx with e | e
    · rw [e]; exact h.1.most
    · exact Grams.most h.2 x e
  | [], _ :: _, h, _, _ => h.elim
  | _ :: _, [], h, _, _ => h.elim
/-- a datagram's pieces -/
def cutPc (S : Nat) : Nat → Bool → List UInt8 → List Pc
  | 0, _, _ => []
  | f + 1, b, l => if l.length = 0 then [] else ⟨b, decide (l.length ≤ S), l.take S⟩ :: cutPc S f false (l.drop S)
theorem cutPc_nil {S f : Nat} {b : Bool} : cutPc S f b [] = [] := by cases f <;> simp [cutPc]
theorem cutPc_one {S f : Nat} {b : Bool} {l : List UInt8} (h : 0 < l.length) : cutPc S (f + 1) b l = ⟨b, decide (l.length ≤ S), l.take S⟩ :: cutPc S f false (l.drop S) := by rw [cutPc, if_neg (by omega)]
theorem cutPc_head {S : Nat} {short : Bool} (hS : 0 < S) : ∀ {f : Nat} {b : Bool} {n : Nat} {l : List UInt8}, l.length ≤ f → n + (cutPc S f b l).length < rgN short →
    (cutF (rgN short) S short f (flagN b false) n l).1.length = (cutPc S f b l).length ∧ (∀ j p, (cutPc S f b l)[j]? = some p → headP ((cutF (rgN short) S short f (flagN b false) n l).1.getD j []) short = ⟨n + j, p.first, p.last, p.b, 0⟩) ∧ (cutF (rgN short) S short f (flagN b false) n l).2 = n + (cutPc S f b l).length
  | 0, b, n, l, h, _ => ⟨rfl, fun j p hj => by simp [cutPc] at hj, rfl⟩
  | f + 1, b, n, l, h, hn => by
    cases hl : l with
    | nil => rw [cutF_nil, cutPc_nil]; exact ⟨rfl, fun j p hj => by simp at hj, rfl⟩
    | cons x r =>
      rw [← hl]
      have h0 : 0 < l.length := by rw [hl]; simp
      rw [cutPc_one h0] at hn ⊢
      rw [cutF_one h0]
      simp only [List.length_cons] at hn ⊢
      have hmod : (n + 1) % rgN short = n + 1 := Nat.mod_eq_of_lt (by omega)
      obtain ⟨h1, h2, h3⟩ := cutPc_head (short := short) hS (f := f) (b := false) (n := n + 1) (l := l.drop S) (by rw [List.length_drop]; omega) (by omega)
      rw [hmod]
      refine ⟨by rw [h1], fun j p hj => ?_, by rw [h3]; omega⟩
      cases j with
      | zero =>
        simp only [List.getElem?_cons_zero, Option.some.injEq] at hj
        subst hj
        exact headP_headB (by omega) _
      | succ j =>
        have := h2 j p (by simpa using hj)
        rw [show n + (j + 1) = n + 1 + j by omega, ← this]
        rfl
theorem cutPc_gram {S : Nat} (hS : 0 < S) : ∀ {f : Nat} {b : Bool} {l : List UInt8}, l.length ≤ f →
    (∀ k x, (cutPc S f b l)[k]? = some x → x.first = (decide (k = 0) && b) ∧ x.last = decide (k + 1 = (cutPc S f b l).length)) ∧ catB (cutPc S f b l) = l ∧ (0 < l.length → cutPc S f b l ≠ [])
  | 0, b, l, h => by
    obtain rfl : l = [] := List.eq_nil_of_length_eq_zero (by omega)
    exact ⟨fun k x hk => by simp [cutPc] at hk, rfl, fun h => by simp at h⟩
  | f + 1, b, l, h => by
    cases hl : l with
    | nil => rw [cutPc_nil]; exact ⟨fun k x hk => by simp at hk, rfl, fun h => by simp at h⟩
    | cons y r =>
      rw [← hl]
      have h0 : 0 < l.length := by rw [hl]; simp
      rw [cutPc_one h0]
      obtain ⟨h1, h2, h3⟩ := cutPc_gram hS (f := f) (b := false) (l := l.drop S) (by rw [List.length_drop]; omega)
      refine ⟨fun k x hk => ?_, ?_, fun _ => by simp⟩
      · cases k with
        | zero =>
          simp only [List.getElem?_cons_zero, Option.some.injEq] at hk
          subst hk
          refine ⟨by simp, ?_⟩
          dsimp only
          rw [List.length_cons]
          by_cases hle : l.length ≤ S
          · rw [List.drop_of_length_le hle, cutPc_nil]; simp [hle]
          · have := h3 (by rw [List.length_drop]; omega)
            have hpos : 0 < (cutPc S f false (l.drop S)).length := List.length_pos_iff.2 this
            rw [decide_eq_false hle, decide_eq_false (by omega)]
        | succ k =>
          have := h1 k x (by simpa using hk)
          rw [this.1, this.2, List.length_cons]
          simp
      · have e : catB (⟨b, decide (l.length ≤ S), l.take S⟩ :: cutPc S f false (l.drop S)) = l.take S ++ catB (cutPc S f false (l.drop S)) := by simp [catB]
        rw [e, h2, List.take_append_drop]
theorem gram_cut {S : Nat} {l : List UInt8} (hS : 0 < S) (h0 : 0 < l.length) (hm : l.length ≤ 4096) : Gram (cutPc S l.length true l) l := by
  obtain ⟨h1, h2, h3⟩ := cutPc_gram hS (f := l.length) (b := true) (l := l) (Nat.le_refl _)
  exact ⟨h3 h0, fun k x hk => by rw [(h1 k x hk).1]; simp, fun k x hk => (h1 k x hk).2, h2, hm⟩
/-- all that was cut so far: the fragments F, their pieces P, by datagrams G, which are D -/
structure Cuts (short : Bool) (F : List (List UInt8)) (P : List Pc) (G : List (List Pc)) (D : List (List UInt8)) : Prop where
  flat : G.flatten = P
  grams : Grams G D
  len : F.length = P.length
  head : ∀ j p, P[j]? = some p → headP (F.getD j []) short = ⟨j, p.first, p.last, p.b, 0⟩
  most : ∀ x ∈ F, x.length ≤ 2000
theorem Cuts.nil (short : Bool) : Cuts short [] [] [] [] := ⟨rfl, trivial, rfl, fun j p h => by simp at h, fun x h => by cases h⟩
theorem Cuts.snoc {short : Bool} {F : List (List UInt8)} {P : List Pc} {G : List (List Pc)} {D : List (List UInt8)} {l : List UInt8} {S : Nat} (h : Cuts short F P G D) (hS : 0 < S) (h0 : 0 < l.length) (hl : l.length ≤ 1000) (hR : P.length + (cutPc S l.length true l).length < rgN short) :
    Cuts short (F ++ (cutF (rgN short) S short l.length (flagN true false) P.length l).1) (P ++ cutPc S l.length true l) (G ++ [cutPc S l.length true l]) (D ++ [l]) ∧ (cutF (rgN short) S short l.length (flagN true false) P.length l).2 = P.length + (cutPc S l.length true l).length ∧ (cutF (rgN short) S short l.length (flagN true false) P.length l).1.length = (cutPc S l.length true l).length := by
  obtain ⟨h1, h2, h3⟩ := cutPc_head (short := short) hS (f := l.length) (b := true) (n := P.length) (l := l) (Nat.le_refl _) hR
  refine ⟨⟨by simp [h.flat], h.grams.snoc (gram_cut hS h0 (by omega)), by rw [List.length_append, List.length_append, h1, h.len], fun j p hj => ?_, fun x hx => ?_⟩, h3, h1⟩
  · by_cases hjl : j < P.length
    · rw [List.getElem?_append_left hjl] at hj
      rw [List.getD_eq_getElem?_getD, List.getElem?_append_left (by rw [h.len]; exact hjl), ← List.getD_eq_getElem?_getD]
      exact h.head j p hj
    · rw [List.getElem?_append_right (by omega)] at hj
      rw [List.getD_eq_getElem?_getD, List.getElem?_append_right (by rw [h.len]; omega), h.len, ← List.getD_eq_getElem?_getD, h2 _ p hj]
      congr 1
      omega
  · rcases List.mem_append.1 hx with e | e
    · exact h.most x e
    · have := cutF_most x e
      omega
theorem cutPc_len {R S : Nat} {short : Bool} (hS : 0 < S) : ∀ {f : Nat} {b : Bool} {n : Nat} {l : List UInt8}, l.length ≤ f → (cutF R S short f (flagN b false) n l).1.length = (cutPc S f b l).length
  | 0, b, n, l, h => rfl
  | f + 1, b, n, l, h => by
    cases hl : l with
    | nil => rw [cutF_nil, cutPc_nil]; rfl
    | cons x r =>
      rw [← hl]
      have h0 : 0 < l.length := by rw [hl]; simp
      rw [cutPc_one h0, cutF_one h0, List.length_cons, List.length_cons, cutPc_len hS (by rw [List.length_drop]; omega)]
/-- a datagram has five pieces at most -/
theorem cutPc_few {l : List UInt8} (hl : l.length ≤ 100) : (cutPc (1 + l.length / 5) l.length true l).length ≤ 5 := by
  rw [← cutPc_len (R := 1) (short := true) (n := 0) (by omega) (Nat.le_refl _), cutF_len (by omega) (Nat.le_refl _)]
  have : (l.length + (1 + l.length / 5 - 1)) / (1 + l.length / 5) < 6 := by
    rw [Nat.div_lt_iff_lt_mul (by omega)]
    omega
  omega
/-- a new joiner -/
theorem Spr.init {short : Bool} {F : List (List UInt8)} {P : List Pc} {G : List (List Pc)} {D : List (List UInt8)} {links : Nat} {lk : Nat → Nat} (h : Cuts short F P G D) : Spr (newJ links 4096 short) short P links lk (fun _ => false) G D 0 := by
  refine ⟨rfl, rfl, Nat.zero_le _, ?_, h.grams, fun m => ?_, Nat.le_refl _, Nat.zero_le _, by simp [newJ], fun i hi => Or.inl ⟨?_, fun m hm => (by cases hm)⟩, fun m hm => (by cases hm), rfl⟩
  · rw [h.flat]; rfl
  · simp [newJ, getP]
  · simp [newJ, List.getD_eq_getElem?_getD, hi]
theorem Stuck.init {s : JS} : ∀ {G : List (List Pc)} {D : List (List UInt8)}, Grams G D → Stuck s (fun _ => false) G
  | [], _, _ => trivial
  | _ :: _, _ :: _, h => ⟨0, List.length_pos_iff.2 h.1.ne, rfl⟩
  | _ :: _, [], h => h.elim
/-- going round one comes to each link -/
theorem round_all {links i0 j : Nat} (h0 : i0 < links) (hj : j < links) : ∃ t, t < links ∧ (i0 + t) % links = j := by
  by_cases h : i0 ≤ j
  · exact ⟨j - i0, by omega, by rw [show i0 + (j - i0) = j by omega, Nat.mod_eq_of_lt hj]⟩
  · exact ⟨j + links - i0, by omega, by rw [show i0 + (j + links - i0) = j + links by omega, Nat.add_mod_right, Nat.mod_eq_of_lt hj]⟩
/-- the state between two fragments -/
structure Mid2 (js : JS) (short : Bool) (P : List Pc) (links T : Nat) (idx : Nat → List Nat) (lk ks : Nat → Nat) (D Lg : List (List UInt8)) (s : Nat) : Prop where
  ex : ∃ rest DR, Spr js short P links lk (addS T idx lk ks) rest DR s ∧ Stuck js (addS T idx lk ks) rest ∧ Lg ++ DR = D
  le : ∀ i, i < links → ks i ≤ (idx i).length
  sum : s = sumN ks links
theorem Mid2.init {short : Bool} {F : List (List UInt8)} {P : List Pc} {G : List (List Pc)} {D : List (List UInt8)} {links T : Nat} {idx : Nat → List Nat} {lk : Nat → Nat} (h : Cuts short F P G D) : Mid2 (newJ links 4096 short) short P links T idx lk (fun _ => 0) D [] 0 :=
  ⟨⟨G, D, by rw [Deal.none]; exact Spr.init h, by rw [Deal.none]; exact Stuck.init h.grams, rfl⟩, fun _ _ => Nat.zero_le _, by rw [sumN_zero]⟩
section
variable {js : JS} {short : Bool} {F : List (List UInt8)} {P : List Pc} {G : List (List Pc)} {links T : Nat} {idx : Nat → List Nat} {lk ks : Nat → Nat} {D Lg : List (List UInt8)} {s : Nat}
theorem Mid2.few (h : Mid2 js short P links T idx lk ks D Lg s) (hd : Deal links T idx lk) : s ≤ T := by rw [h.sum]; exact hd.bound h.le
/-- link j brings its next fragment -/
theorem Mid2.add (h : Mid2 js short P links T idx lk ks D Lg s) (hd : Deal links T idx lk) (hc : Cuts short F P G D) (hP : P.length = T) (hT : T ≤ 50) (h0 : 0 < links) {j : Nat} (hj : j < links) (hk : ks j < (idx j).length) :
    ∃ L t, AddR js (j : Nat) ((((idx j).map fun x => F.getD x [])).getD (ks j) []) L 0 t ∧ Mid2 t short P links T idx lk (fun i => if i = j then ks i + 1 else ks i) D (Lg ++ L) (s + 1) ∧ ((((idx j).map fun x => F.getD x [])).getD (ks j) []).length ≤ 2000 := by
  obtain ⟨rest, DR, h1, h2, h3⟩ := h.ex
  have hs := h.few hd
  obtain ⟨n, hn⟩ : ∃ n, (idx j)[ks j]? = some n := ⟨_, List.getElem?_eq_getElem hk⟩
  obtain ⟨a1, a2, a3, a4, a5⟩ := hd.next hj hn
  have hg : (((idx j).map fun x => F.getD x [])).getD (ks j) [] = F.getD n [] := by simp [List.getD_eq_getElem?_getD, hn]
  obtain ⟨p, hp⟩ : ∃ p, P[n]? = some p := ⟨_, List.getElem?_eq_getElem (by omega)⟩
  obtain ⟨t, L, rest', DR', b1, b2, b3, b4, _⟩ := h1.put (hd.dealt hP (by omega) h0 ks) hp a3 a4 (hc.head n p hp) (by omega)
  rw [hg]
  refine ⟨L, t, by rw [a2] at b1; exact b1, ⟨⟨rest', DR', by rw [a5]; exact b3, by rw [a5]; exact b4, by rw [List.append_assoc, ← b2]; exact h3⟩, fun i hi => ?_, by rw [sumN_upd hj, ← h.sum]⟩, ?_⟩
  · split
    · rename_i e; subst e; omega
    · exact h.le i hi
  · have hnF : n < F.length := by rw [hc.len]; omega
    exact hc.most _ (by rw [List.getD_eq_getElem?_getD, List.getElem?_eq_getElem hnF]; exact List.getElem_mem hnF)
/-- all are brought -/
theorem Mid2.done (h : Mid2 js short P links T idx lk ks D Lg s) (hd : Deal links T idx lk) (hP : P.length = T) (hT : T ≤ 50) (h0 : 0 < links) (hk : ∀ i, i < links → (idx i).length ≤ ks i) : Lg = D ∧ js.held = [] ∧ js.lost = 0 := by
  obtain ⟨rest, DR, h1, h2, h3⟩ := h.ex
  obtain ⟨e1, e2, e3⟩ := h1.done (hd.dealt hP (by omega) h0 ks) h2 (fun m hm => hd.all hk m (by omega))
  rw [e1, List.append_nil] at h3
  exact ⟨h3, e2, e3⟩
end
end Go.Proofs.Ytglmlhbchfgliaa
