/-
  A region that draws its order and whose last operation waits for all others: the others are walked as a quiet region over a class of worlds, then the last one. No conditions beyond what the Bool 'lastB' asks of the region's edges.
-/
import Derived.Test.YtdfoimgckahjpaaRows
import Derived.Lib.QuietBelow
namespace Go.Proofs.Ytdfoimgckahjpaa
/-- Q, but K at an ordinary end -/
def thenLast (Q : Exit → Act → World → Prop) (K : Act → World → Prop) : Exit → Act → World → Prop
  | .normal, a, w => K a w
  | e, a, w => Q e a w
/-- no guards; edges lead back; each operation but the last is waited for by a later one -/
def lastB (l : List Oper) (o : Oper) : Bool :=
  (List.range (l.length + 1)).all (fun j => match (l ++ [o])[j]? with | none => true | some x => x.guard.isNone && x.after.all fun e => !Region.binds .any e || decide (e.on < j)) &&
  (List.range l.length).all (fun i => (List.range (l.length + 1)).any fun j => decide (i < j) && match (l ++ [o])[j]? with | none => false | some x => x.after.any fun e => Region.binds .any e && e.on == i)
section
variable {P : Program} {l : List Oper} {o : Oper} {Q : Exit → Act → World → Prop}
theorem lastB_back (h : lastB l o = true) {j : Nat} {x : Oper} (hx : (l ++ [o])[j]? = some x) : x.guard = none ∧ ∀ e ∈ x.after, Region.binds .any e = true → e.on < j := by
  unfold lastB at h
  rw [Bool.and_eq_true, List.all_eq_true] at h
  have hj : j < l.length + 1 := by have := (List.getElem?_eq_some_iff.1 hx).1; simpa using this
  have := h.1 j (List.mem_range.2 hj)
  rw [hx] at this
  simp only [Bool.and_eq_true, Option.isNone_iff_eq_none, Array.all_eq_true_iff_forall_mem] at this
  refine ⟨this.1, fun e he hb => ?_⟩
  have := this.2 e he
  simpa [hb] using this
theorem lastB_sink (h : lastB l o = true) {i : Nat} (hi : i < l.length) : ∃ j x, i < j ∧ j ≤ l.length ∧ (l ++ [o])[j]? = some x ∧ ∃ e ∈ x.after, Region.binds .any e = true ∧ e.on = i := by
  unfold lastB at h
  rw [Bool.and_eq_true, List.all_eq_true, List.all_eq_true] at h
  have := h.2 i (List.mem_range.2 hi)
  rw [List.any_eq_true] at this
  obtain ⟨j, hj, h2⟩ := this
  rw [Bool.and_eq_true, decide_eq_true_eq] at h2
  obtain ⟨h2, h3⟩ := h2
  have hj' := List.mem_range.1 hj
  cases hx : (l ++ [o])[j]? with
  | none => rw [hx] at h3; cases h3
  | some x =>
    rw [hx] at h3
    obtain ⟨e, he, h4⟩ := Array.any_eq_true'.1 h3
    simp only [Bool.and_eq_true, beq_iff_eq] at h4
    exact ⟨j, x, h2, by omega, hx, e, he, h4.1, h4.2⟩
/-- what is listed is as long as the list, and closed under what it waits for -/
structure Closed (l : List Oper) (listed : Array Bool) : Prop where
  size : listed.size = l.length
  deps : ∀ (j : Nat) (x : Oper), l[j]? = some x → listed.getD j true = true → ∀ e ∈ x.after, Region.binds .any e = true → listed.getD e.on false = true
theorem listed_lt {listed : Array Bool} {j : Nat} (h : j < listed.size) : listed.getD j true = listed.getD j false := by simp [Array.getD, h]
theorem listed_push {listed : Array Bool} (b : Bool) (j : Nat) (d : Bool) : (listed.push b).getD j d = if j < listed.size then listed.getD j d else if j = listed.size then b else d := by
  by_cases h : j < listed.size
  · simp [Array.getD, h, Nat.lt_succ_of_lt h, Array.getElem_push_lt h]
  · by_cases h2 : j = listed.size
    · subst h2; simp [Array.getD]
    · have : ¬ j < listed.size + 1 := by omega
      simp [Array.getD, h, h2, this]
theorem listed_set {listed : Array Bool} (i j : Nat) (d : Bool) : (listed.setIfInBounds i true).getD j d = if i = j ∧ j < listed.size then true else listed.getD j d := by
  by_cases hj : j < listed.size
  · by_cases h : i = j
    · subst h; simp [Array.getD, hj]
    · simp [Array.getD, hj, h]
  · simp [Array.getD, hj]
/-- all are listed -/
def AllIn (l : List Oper) (listed : Array Bool) : Prop := ∀ j, j < l.length → listed.getD j false = true
theorem all_of_empty (h : lastB l o = true) {listed : Array Bool} (hc : Closed l listed) (he : Region.ready .any l.toArray listed = []) : AllIn l listed := by
  intro j
  induction j using Nat.strongRecOn with
  | ind j ih =>
    intro hj
    cases hl : listed.getD j false with
    | true => rfl
    | false =>
      have hx : l[j]? = some l[j] := List.getElem?_eq_getElem hj
      have hx2 : (l ++ [o])[j]? = some l[j] := by rw [List.getElem?_append_left hj]; exact hx
      have hb := (lastB_back h hx2).2
      have : j ∈ Region.ready .any l.toArray listed := mem_ready.2 ⟨by rw [listed_lt (by rw [hc.size]; exact hj)]; exact hl, l[j], by simp, fun e he hbi => ih e.on (hb e he hbi) (by have := hb e he hbi; omega)⟩
      rw [he] at this
      cases this
theorem all_of_last (h : lastB l o = true) {listed : Array Bool} (hc : Closed l listed) (ho : ∀ e ∈ o.after, Region.binds .any e = true → listed.getD e.on false = true) : AllIn l listed := by
  suffices H : ∀ d j, j + d = l.length → 0 < d → listed.getD j false = true by
    intro j hj; exact H (l.length - j) j (by omega) (by omega)
  intro d
  induction d using Nat.strongRecOn with
  | ind d ih =>
    intro i hi hd
    obtain ⟨j, x, h1, h2, h3, e, he, hb, rfl⟩ := lastB_sink h (i := i) (by omega)
    by_cases hj : j = l.length
    · subst hj
      rw [List.getElem?_append_right (Nat.le_refl _)] at h3
      simp at h3; subst h3
      exact ho e he hb
    · have hjl := ih (l.length - j) (by omega) j (by omega) (by omega)
      rw [List.getElem?_append_left (by omega)] at h3
      exact hc.deps j x h3 (by rw [listed_lt (by rw [hc.size]; omega)]; exact hjl) e he hb
theorem empty_of_all {listed : Array Bool} (hc : Closed l listed) (ha : AllIn l listed) : Region.ready .any l.toArray listed = [] := by
  apply List.eq_nil_iff_forall_not_mem.2
  intro i hi
  obtain ⟨h1, x, hx, -⟩ := mem_ready.1 hi
  have hlt : i < l.length := by have := (Array.getElem?_eq_some_iff.1 hx).1; simpa using this
  rw [listed_lt (by rw [hc.size]; exact hlt), ha i hlt] at h1
  cases h1
theorem upon_mono {x : Oper} {a : Act} {w : World} {K K' : Act → World → Prop} {Q Q' : Exit → Act → World → Prop} (hK : ∀ a w, K a w → K' a w) (hQ : ∀ c a w, Q (.panic c) a w → Q' (.panic c) a w) (hL : LetsOut Q → LetsOut Q')
    (h : x.wp P a w K Q) : x.wp P a w K' Q' := by
  unfold Oper.wp at *
  generalize (execOp a.eval x).run P w = r at *
  cases r with
  | ok n w' =>
    cases n <;> simp only [Oper.upon] at h ⊢ <;>
      first
        | exact hK _ _ h
        | exact Calls.mono h (fun e w'' he => by cases e <;> first | exact hK _ _ he | exact hQ _ _ _ he | exact hL he)
        | exact Rows.mono h (fun _ _ he => hK _ _ he)
  | halt y w' => cases y <;> simp only [Oper.upon] at h ⊢ <;> exact hQ _ _ _ h
/-- the last operation, then what stands behind the region -/
def lastK (P : Program) (l : List Oper) (o : Oper) (Q : Exit → Act → World → Prop) (a : Act) (w : World) : Prop := wpOp P (l ++ [o]).toArray Q l.length (Q .normal) a w
theorem last_step (h : lastB l o = true) {listed : Array Bool} (hc : Closed l listed) (ha : AllIn l listed) (fuel : Nat) {a : Act} {w : World} (hK : lastK P l o Q a w) :
    wpAny P .any (l ++ [o]).toArray Q (fuel + 1) (listed.push false) a w := by
  have hmem : ∀ i, i ∈ Region.ready .any (l ++ [o]).toArray (listed.push false) ↔ i = l.length := by
    intro i
    constructor
    · intro hi
      obtain ⟨h1, x, hx, -⟩ := mem_ready.1 hi
      have hlt : i < l.length + 1 := by have := (Array.getElem?_eq_some_iff.1 hx).1; simpa using this
      by_cases he : i = l.length
      · exact he
      · rw [listed_push, if_pos (by rw [hc.size]; omega), listed_lt (by rw [hc.size]; omega), ha i (by omega)] at h1
        cases h1
    · rintro rfl
      refine mem_ready.2 ⟨by rw [listed_push, hc.size]; simp, o, by simp, fun e he hb => ?_⟩
      have := (lastB_back h (j := l.length) (x := o) (by simp)).2 e he hb
      rw [listed_push, if_pos (by rw [hc.size]; exact this)]
      exact ha _ this
  refine ⟨fun he => ?_, fun i hi => ?_⟩
  · have := (hmem l.length).2 rfl
    rw [he] at this; cases this
  · have := (hmem i).1 hi
    subst this
    refine wpOp_mono (fun a' w' hq => ?_) hK
    have hnil : Region.ready .any (l ++ [o]).toArray ((listed.push false).setIfInBounds l.length true) = [] := by
      apply List.eq_nil_iff_forall_not_mem.2
      intro i hi
      obtain ⟨h1, x, hx, -⟩ := mem_ready.1 hi
      have hlt : i < l.length + 1 := by have := (Array.getElem?_eq_some_iff.1 hx).1; simpa using this
      rw [listed_set] at h1
      split at h1
      · cases h1
      · rename_i hn
        have hs : (listed.push false).size = l.length + 1 := by simp [hc.size]
        have hne : ¬ i = l.length := fun e => hn ⟨e.symm, by rw [hs]; omega⟩
        rw [listed_push, if_pos (by rw [hc.size]; omega), listed_lt (by rw [hc.size]; omega), ha i (by omega)] at h1
        cases h1
    cases fuel with
    | zero => exact ⟨hnil, hq⟩
    | succ f => exact ⟨fun _ => hq, fun i hi => by rw [hnil] at hi; cases hi⟩
theorem wpAny_last (h : lastB l o = true) : ∀ (fuel : Nat) (listed : Array Bool) (a : Act) (w : World), Closed l listed → wpAny P .any l.toArray (thenLast Q (lastK P l o Q)) fuel listed a w →
    wpAny P .any (l ++ [o]).toArray Q (fuel + 1) (listed.push false) a w
  | 0, listed, a, w, hc, hw => last_step h hc (all_of_empty h hc hw.1) 0 hw.2
  | fuel + 1, listed, a, w, hc, hw => by
    by_cases he : Region.ready .any l.toArray listed = []
    · exact last_step h hc (all_of_empty h hc he) _ (hw.1 he)
    have hnl : ∀ i, i ∈ Region.ready .any (l ++ [o]).toArray (listed.push false) → i < l.length ∧ i ∈ Region.ready .any l.toArray listed := by
      intro i hi
      obtain ⟨h1, x, hx, hd⟩ := mem_ready.1 hi
      have hlt : i < l.length + 1 := by have := (Array.getElem?_eq_some_iff.1 hx).1; simpa using this
      have hd' : ∀ e ∈ x.after, Region.binds .any e = true → listed.getD e.on false = true := by
        intro e he hb
        have h2 := hd e he hb
        rw [listed_push] at h2
        by_cases hq : e.on < listed.size
        · rwa [if_pos hq] at h2
        · rw [if_neg hq] at h2
          by_cases hq2 : e.on = listed.size
          · rw [if_pos hq2] at h2; cases h2
          · rw [if_neg hq2] at h2; cases h2
      by_cases hn : i = l.length
      · subst hn
        have : x = o := by simpa using hx.symm
        subst this
        exact absurd (empty_of_all hc (all_of_last h hc hd')) he
      · rw [listed_push, if_pos (by rw [hc.size]; omega)] at h1
        refine ⟨by omega, mem_ready.2 ⟨h1, x, ?_, hd'⟩⟩
        have : (l ++ [o])[i]? = some x := by simpa using hx
        rw [List.getElem?_append_left (by omega)] at this
        simpa using this
    have hne : Region.ready .any (l ++ [o]).toArray (listed.push false) ≠ [] := by
      intro hz
      obtain ⟨i, hi⟩ := List.exists_mem_of_ne_nil _ he
      obtain ⟨h1, x, hx, hd⟩ := mem_ready.1 hi
      have hlt : i < l.length := by have := (Array.getElem?_eq_some_iff.1 hx).1; simpa using this
      have : i ∈ Region.ready .any (l ++ [o]).toArray (listed.push false) := mem_ready.2 ⟨by rw [listed_push, if_pos (by rw [hc.size]; omega)]; exact h1, x, by
        have : l[i]? = some x := by simpa using hx
        simpa [List.getElem?_append_left hlt] using this, fun e he hb => by
        have h2 := hd e he hb
        rw [listed_push]
        by_cases hq : e.on < listed.size
        · rw [if_pos hq]; exact h2
        · simp [Array.getD, hq] at h2⟩
      rw [hz] at this; cases this
    refine ⟨fun hz => absurd hz hne, fun i hi => ?_⟩
    obtain ⟨hlt, hi'⟩ := hnl i hi
    have h1 := hw.2 i hi'
    have hx : l[i]? = some l[i] := List.getElem?_eq_getElem hlt
    have hx2 : (l ++ [o])[i]? = some l[i] := by rw [List.getElem?_append_left hlt]; exact hx
    have hgd := (lastB_back h hx2).1
    have hc2 : Closed l (listed.setIfInBounds i true) := by
      refine ⟨by simp [hc.size], fun j x hjx hj e he hb => ?_⟩
      rw [listed_set]
      split
      · rfl
      · by_cases hij : i = j
        · subst hij
          obtain ⟨-, y, hy, hd⟩ := mem_ready.1 hi'
          have : y = x := by
            have h3 : l[i]? = some y := by simpa using hy
            rw [h3] at hjx; exact Option.some.inj hjx
          subst this
          exact hd e he hb
        · refine hc.deps j x hjx ?_ e he hb
          rw [listed_set] at hj
          rwa [if_neg (fun hh => hij hh.1)] at hj
    have hset : (listed.push false).setIfInBounds i true = (listed.setIfInBounds i true).push false := by
      have hi2 : i < listed.size := by rw [hc.size]; exact hlt
      apply Array.ext_getElem?
      intro j
      rw [Array.getElem?_setIfInBounds, Array.getElem?_push, Array.getElem?_push, Array.getElem?_setIfInBounds]
      by_cases h : i = j
      · subst h
        have : ¬ i = listed.size := by omega
        simp [hi2, this]
        omega
      · simp [h]
    unfold wpOp at h1 ⊢
    have ex1 : l.toArray[i]? = some l[i] := by simp
    have ex2 : (l ++ [o]).toArray[i]? = some l[i] := by simpa using hx2
    simp only [ex1] at h1
    simp only [ex2]
    have hw1 : ∀ f, Region.wanted l[i] f = true := fun f => by simp [Region.wanted, hgd]
    rw [if_pos (hw1 _)] at h1 ⊢
    rcases h1 with h1 | ⟨h1, a', w', h2⟩
    · exact .inl (upon_mono (fun a' w' hh => by rw [hset]; exact wpAny_last h fuel _ a' w' hc2 hh) (fun _ _ _ hh => hh) (fun ⟨a', w', hh⟩ => ⟨a', w', hh⟩) h1)
    · exact .inr ⟨h1, a', w', h2⟩
/-- A REGION WHOSE LAST OPERATION WAITS FOR ALL OTHERS, the others quiet in a class of worlds. -/
theorem wp_region_quiet_last {id : Nat} {a : Act} {w : World} {C : World → Prop} (hm : P.follows .mixedOrders = true) (hB : lastB l o = true) (hlex : Region.lexB .any l.toArray = true) (hC : C { w with drawn := w.drawn + 1 })
    (h : wpQuiet P l.toArray C (fun a' => ∀ w', C w' → wpList P (l ++ [o]).toArray Q [o] a' w') l a) : (Code.region id (l ++ [o]).toArray true).wp P Q a w := by
  have hgd := (lastB_back hB (j := l.length) (x := o) (by simp)).1
  simp only [Region.lexB, Bool.and_eq_true] at hlex
  refine wp_region_any hm ?_
  have h1 := wpAnyQ_lex (C := C) (md := .any) hlex.1 l 0 (Array.replicate l.length false) a (by simp) (by simpa using hlex.2) h
  have h2 := wpAny_of_quiet (Q' := thenLast Q (lastK P l o Q)) (fun a' w' hw' hq => by
    have h3 := hq w' hw'
    show wpOp P _ Q l.length (Q .normal) a' w'
    unfold wpOp
    simp only [List.getElem?_toArray, List.getElem?_append_right (Nat.le_refl _), Nat.sub_self, List.getElem?_cons_zero]
    have hw1 : Region.wanted o (yielded (l ++ [o]).toArray a'.tmps) = true := by simp [Region.wanted, hgd]
    rw [if_pos hw1]
    unfold wpList at h3
    rw [if_pos hw1] at h3
    exact h3) l.length (Array.replicate l.length false) a _ hC h1
  have h4 := wpAny_last hB l.length (Array.replicate l.length false) a _ ⟨by simp, fun j x hx hj => by
    have hlt := (List.getElem?_eq_some_iff.1 hx).1
    simp [Array.getD, hlt] at hj⟩ h2
  have e : (Array.replicate l.length false).push false = Array.replicate (l ++ [o]).toArray.size false := by
    simp [← Array.replicate_succ]
  rw [e] at h4
  simpa using h4
theorem wp_region_quiet_end {L : List Oper} {id : Nat} {a : Act} {w : World} {C : World → Prop} (n : Nat) (hd : L.drop n = [o]) (hm : P.follows .mixedOrders = true) (hB : lastB (L.take n) o = true) (hlex : Region.lexB .any (L.take n).toArray = true) (hC : C { w with drawn := w.drawn + 1 })
    (h : wpQuiet P (L.take n).toArray C (fun a' => ∀ w', C w' → wpList P L.toArray Q [o] a' w') (L.take n) a) : (Code.region id L.toArray true).wp P Q a w := by
  have e : L = L.take n ++ [o] := by rw [← hd, List.take_append_drop]
  generalize L.take n = l at *
  subst e
  exact wp_region_quiet_last hm hB hlex hC h
open Go.Sort in
/-- the same at the class of worlds in which of what was there nothing has turned -/
theorem wp_region_below_end {L : List Oper} {id : Nat} {a : Act} {w : World} (n : Nat) (hd : L.drop n = [o]) (hm : P.follows .mixedOrders = true) (hB : lastB (L.take n) o = true) (hlex : Region.lexB .any (L.take n).toArray = true)
    (h : wpQuiet P (L.take n).toArray (fun w' => ∃ p : Regrown, w' = grow (redrawn w p.d) p.os) (fun a' => ∀ w', (∃ p : Regrown, w' = grow (redrawn w p.d) p.os) → wpList P L.toArray Q [o] a' w') (L.take n) a) : (Code.region id L.toArray true).wp P Q a w :=
  wp_region_quiet_end (C := fun w' => ∃ p : Regrown, w' = grow (redrawn w p.d) p.os) n hd hm hB hlex ⟨⟨w.drawn + 1, #[]⟩, by rw [grow_empty]; rfl⟩ h
end
end Go.Proofs.Ytdfoimgckahjpaa
