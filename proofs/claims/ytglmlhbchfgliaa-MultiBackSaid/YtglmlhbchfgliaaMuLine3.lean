/-
  Fragments are missing on a joiner's one link; what Add does then, plainly. No conditions.
-/
import Derived.Test.YtglmlhbchfgliaaMuLine2
namespace Go.Proofs.Ytglmlhbchfgliaa
open Go.RowKit Go.Maps
theorem getP_append {l : List (Nat × Pc)} {n m : Nat} {p : Pc} : getP (l ++ [(n, p)]) m = (getP l m).or (if n = m then some p else none) := by
  induction l with
  | nil => simp [getP]
  | cons x r ih =>
    obtain ⟨k, q⟩ := x
    rw [List.cons_append, getP_cons, getP_cons]
    by_cases h : k = m
    · simp [h]
    · simp [h, ih]
section
variable {short : Bool} {most : Nat}
/-- behind missing ones: those ahead are lost, the rest is as if the one alone had come -/
theorem line_gap {p : Pc} : ∀ (gap a : Nat) (ps : List Pc) (lost : Nat), a < rgN short → ps.length + gap ≤ 1000 → ps.length ≤ 60 → (∀ x ∈ ps, x.last = false) → (∀ x, ps[0]? = some x → x.first = true) → 1 ≤ gap →
    ∃ lost', ∀ L t, Goes ⟨short, most, (a + ps.length + gap) % rgN short, [(((a + ps.length + gap) % rgN short : Nat) : Int)], [((a + ps.length + gap) % rgN short, p)], lost'⟩ L t →
      Goes ⟨short, most, a, [(((a + ps.length + gap) % rgN short : Nat) : Int)], rowH (rgN short) a ps ++ [((a + ps.length + gap) % rgN short, p)], lost⟩ L t
  | 0, _, _, _, _, _, _, _, _, h => by omega
  | gap + 1, a, ps, lost, ha, hg, hl, h1, h2, _ => by
    have hR := rgN_big short
    have hev := (rgN_even short).1
    have hq : onR (rgN short) a ((a + ps.length + (gap + 1)) % rgN short) = ps.length + (gap + 1) := by
      rw [Nat.add_assoc]; exact onR_add ha (by omega)
    have hrun : runP ⟨short, most, a, [(((a + ps.length + (gap + 1)) % rgN short : Nat) : Int)], rowH (rgN short) a ps ++ [((a + ps.length + (gap + 1)) % rgN short, p)], lost⟩ = ps := by
      unfold runP
      have hne : ∀ k, k ≤ ps.length → getP (rowH (rgN short) a ps ++ [((a + ps.length + (gap + 1)) % rgN short, p)]) ((a + k) % rgN short) = ps[k]? := fun k hk => by
        rw [getP_append, getP_rowH ha (by omega) (by omega), if_neg]
        · simp
        · intro e
          rw [e, onR_add ha (by omega)] at hq
          omega
      refine runF_row ha (fun k hk => hne k (by omega)) ?_ (by simp [rowH_length]; omega)
      rw [hne _ (Nat.le_refl _)]
      simp
    have hj : joinP most ps = none := by
      cases ps with
      | nil => rfl
      | cons x r => rw [joinP_cons (h2 x rfl), joinF_none h1]
    have ho : oddP ps = false := by
      cases ps with
      | nil => rfl
      | cons x r => show (!x.first) = false; rw [h2 x rfl]; rfl
    have hgo : goneP ⟨short, most, a, [(((a + ps.length + (gap + 1)) % rgN short : Nat) : Int)], rowH (rgN short) a ps ++ [((a + ps.length + (gap + 1)) % rgN short, p)], lost⟩ ps.length = true := by
      rw [gone_one]
      have h := aheadI_add (R := rgN short) (n := (a + ps.length) % rgN short) (i := gap + 1) (Nat.mod_lt _ (by omega)) (by omega)
      rw [Nat.mod_add_mod] at h
      rw [h]
      simp
      omega
    have hst : stepP ⟨short, most, a, [(((a + ps.length + (gap + 1)) % rgN short : Nat) : Int)], rowH (rgN short) a ps ++ [((a + ps.length + (gap + 1)) % rgN short, p)], lost⟩ =
        some (⟨short, most, (a + (ps.length + 1)) % rgN short, [(((a + ps.length + (gap + 1)) % rgN short : Nat) : Int)], [((a + ps.length + (gap + 1)) % rgN short, p)], lost + 1⟩, []) := by
      unfold stepP
      rw [hrun, hj, ho, hgo]
      simp only [Option.isSome_none, Bool.false_eq_true, if_false, if_true]
      have hf := filter_row0 (R := rgN short) (n := a) (k := ps.length + 1) (ps := ps) ha (by omega)
      rw [List.drop_of_length_le (by omega)] at hf
      have hk : keepP (rgN short) a (ps.length + 1) ((a + ps.length + (gap + 1)) % rgN short) = true := by
        unfold keepP
        rw [aheadI_eq, hq, if_neg (by omega)]
        simp
        omega
      unfold passP
      simp only [List.filter_append, hf]
      rw [List.filter_cons_of_pos (by simpa using hk)]
      rfl
    by_cases hg0 : gap = 0
    · subst hg0
      refine ⟨lost + 1, fun L t hG => ?_⟩
      have := Goes.go (d := []) hst (L := L) (u := t) (by rw [show a + (ps.length + 1) = a + ps.length + (0 + 1) by omega]; exact hG)
      simpa using this
    · obtain ⟨lost', hG'⟩ := line_gap gap ((a + (ps.length + 1)) % rgN short) [] (lost + 1) (Nat.mod_lt _ (by omega)) (by simp; omega) (by simp) (by simp) (by simp) (by omega)
      rw [List.length_nil, Nat.add_zero, Nat.mod_add_mod, show a + (ps.length + 1) + gap = a + ps.length + (gap + 1) by omega] at hG'
      refine ⟨lost', fun L t hG => ?_⟩
      have := Goes.go (d := []) hst (hG' L t hG)
      simpa using this
/-- a joiner of one link, on which all came in order so far: held is a row from a on, then so many are missing -/
structure Line (s : JS) (short : Bool) (most a : Nat) (ps : List Pc) (gap lost : Nat) : Prop where
  ex : ∃ y, s = ⟨short, most, a, [y], rowH (rgN short) a ps, lost⟩ ∧ (y = -1 ∨ ∃ m : Nat, y = (m : Int) ∧ m < rgN short ∧ (aheadI (rgN short) a m = -1 ∨ aheadI (rgN short) a m < (ps.length : Int)))
  lt : a < rgN short
  most : ps.length + gap ≤ 1000 ∧ ps.length ≤ 60
  noEnd : ∀ x ∈ ps, x.last = false
  begin : ∀ k x, ps[k]? = some x → x.first = decide (k = 0)
/-- the next fragment comes -/
theorem Line.put {s t : JS} {a gap lost : Nat} {ps : List Pc} {l : List UInt8} {L : List (List UInt8)} {p : Pc} (h : Line s short most a ps gap lost) (hh : headP l short = ⟨(a + ps.length + gap) % rgN short, p.first, p.last, p.b, 0⟩)
    (hG : Goes ⟨short, most, a, [(((a + ps.length + gap) % rgN short : Nat) : Int)], rowH (rgN short) a ps ++ [((a + ps.length + gap) % rgN short, p)], lost⟩ L t) : AddR s 0 l L 0 t := by
  have hR := rgN_big short
  have hev := (rgN_even short).1
  have hm := h.most
  obtain ⟨y, rfl, hy⟩ := h.ex
  have hah : aheadI (rgN short) a ((a + ps.length + gap) % rgN short) = ((ps.length + gap : Nat) : Int) := by rw [Nat.add_assoc]; exact aheadI_add h.lt (by omega)
  unfold AddR
  dsimp only
  rw [hh]
  dsimp only
  rw [if_neg (by simp), if_neg (by simp), if_neg]
  · refine ⟨rfl, ?_⟩
    have e : pcOf l short = p := by unfold pcOf; rw [hh]
    rw [e]
    exact hG
  · unfold oldP
    dsimp only
    have hg : getP (rowH (rgN short) a ps) ((a + ps.length + gap) % rgN short) = none := by
      rw [Nat.add_assoc, getP_rowH h.lt (by omega) (by omega)]
      simp
    rw [hah, hg]
    have e0 : ([y] : List Int).getD (0 : Int).toNat 0 = y := rfl
    rw [e0]
    rcases hy with rfl | ⟨m, rfl, _, hm2⟩
    · simp
      omega
    · have h2 : ¬ (((ps.length + gap : Nat) : Int) ≤ aheadI (rgN short) a m) := by omega
      rw [Int.toNat_natCast]
      simp
      omega
/-- one is missing -/
theorem Line.miss {s : JS} {a gap lost : Nat} {ps : List Pc} (h : Line s short most a ps gap lost) (hg : ps.length + gap < 1000) : Line s short most a ps (gap + 1) lost :=
  ⟨h.ex, h.lt, ⟨by omega, h.most.2⟩, h.noEnd, h.begin⟩
theorem line_idle {q lost : Nat} (hq : q < rgN short) : Line ⟨short, most, (q + 1) % rgN short, [(q : Int)], [], lost⟩ short most ((q + 1) % rgN short) [] 0 lost := by
  have hR := rgN_big short
  exact ⟨⟨_, rfl, Or.inr ⟨q, rfl, hq, Or.inl (aheadI_back hq (by omega))⟩⟩, Nat.mod_lt _ (by omega), by simp, by simp, by simp⟩
theorem line_row {a lost : Nat} {ps : List Pc} {p : Pc} (ha : a < rgN short) (hl : ps.length ≤ 59) (h1 : ∀ x ∈ ps ++ [p], x.last = false) (h2 : ∀ k x, (ps ++ [p])[k]? = some x → x.first = decide (k = 0)) :
    Line ⟨short, most, a, [(((a + ps.length) % rgN short : Nat) : Int)], rowH (rgN short) a (ps ++ [p]), lost⟩ short most a (ps ++ [p]) 0 lost := by
  have hR := rgN_big short
  have hev := (rgN_even short).1
  refine ⟨⟨_, rfl, Or.inr ⟨_, rfl, Nat.mod_lt _ (by omega), Or.inr ?_⟩⟩, ha, by simp; omega, h1, h2⟩
  rw [aheadI_add ha (by omega), List.length_append, List.length_singleton]
  omega
/-- the next fragment comes, and goes on what is held -/
theorem Line.cont {s : JS} {a lost : Nat} {ps : List Pc} {l : List UInt8} {p : Pc} (h : Line s short most a ps 0 lost) (hh : headP l short = ⟨(a + ps.length) % rgN short, p.first, p.last, p.b, 0⟩) (hf : p.first = decide (ps.length = 0)) (hl : ps.length ≤ 59) (hm : (catB (ps ++ [p])).length ≤ most) :
    ∃ t a' ps', AddR s 0 l (if p.last then [catB (ps ++ [p])] else []) 0 t ∧ Line t short most a' ps' 0 lost ∧ ps' = (if p.last then [] else ps ++ [p]) ∧ (a' + ps'.length) % rgN short = (a + ps.length + 1) % rgN short := by
  have hR := rgN_big short
  have h2 : ∀ k x, (ps ++ [p])[k]? = some x → x.first = decide (k = 0) := fun k x hk => by
    by_cases hkl : k < ps.length
    · rw [List.getElem?_append_left hkl] at hk
      exact h.begin k x hk
    · rw [List.getElem?_append_right (by omega)] at hk
      have hk0 : k - ps.length = 0 := by
        have := (List.getElem?_eq_some_iff.1 hk).1
        simp at this; omega
      rw [hk0] at hk
      obtain rfl : p = x := by simpa using hk
      rw [hf, show k = ps.length by omega]
  cases hp : p.last
  · refine ⟨_, a, ps ++ [p], h.put (by rw [Nat.add_zero]; exact hh) ?_, line_row h.lt hl ?_ h2, by simp, by simp [Nat.add_assoc]⟩
    · rw [Nat.add_zero, ← rowH_snoc h.lt]
      refine line_more h.lt (by omega) (fun x hx => ?_) h2
      rcases List.mem_append.1 hx with e | e
      · exact h.noEnd x e
      · rw [List.mem_singleton] at e; subst e; exact hp
    · intro x hx
      rcases List.mem_append.1 hx with e | e
      · exact h.noEnd x e
      · rw [List.mem_singleton] at e; subst e; exact hp
  · refine ⟨⟨short, most, (a + ps.length + 1) % rgN short, [(((a + ps.length) % rgN short : Nat) : Int)], [], lost⟩, (a + ps.length + 1) % rgN short, [], h.put (by rw [Nat.add_zero]; exact hh) ?_, ?_, by simp, ?_⟩
    · rw [Nat.add_zero, ← rowH_snoc h.lt]
      exact line_end h.lt (by omega) h.noEnd h2 hp hm
    · have := line_idle (short := short) (most := most) (q := (a + ps.length) % rgN short) (lost := lost) (Nat.mod_lt _ (by omega))
      rwa [Nat.mod_add_mod] at this
    · simp
/-- the next fragment comes, and what is held, if anything, is of no use to it -/
theorem Line.alone {s : JS} {a gap lost : Nat} {ps : List Pc} {l : List UInt8} {p : Pc} (h : Line s short most a ps gap lost) (hh : headP l short = ⟨(a + ps.length + gap) % rgN short, p.first, p.last, p.b, 0⟩) (hg : 1 ≤ gap ∨ ps = []) (hm : p.b.length ≤ most) :
    ∃ t a' ps' lost', AddR s 0 l (if p.first && p.last then [p.b] else []) 0 t ∧ Line t short most a' ps' 0 lost' ∧ ps' = (if p.first && !p.last then [p] else []) ∧ (a' + ps'.length) % rgN short = (a + ps.length + gap + 1) % rgN short := by
  have hR := rgN_big short
  obtain ⟨lost', hG⟩ : ∃ lost', ∀ L t, Goes ⟨short, most, (a + ps.length + gap) % rgN short, [(((a + ps.length + gap) % rgN short : Nat) : Int)], [((a + ps.length + gap) % rgN short, p)], lost'⟩ L t →
      Goes ⟨short, most, a, [(((a + ps.length + gap) % rgN short : Nat) : Int)], rowH (rgN short) a ps ++ [((a + ps.length + gap) % rgN short, p)], lost⟩ L t := by
    by_cases h0 : 1 ≤ gap
    · exact line_gap gap a ps lost h.lt h.most.1 h.most.2 h.noEnd (fun x hx => by rw [h.begin 0 x hx]; rfl) h0
    · obtain rfl : gap = 0 := by omega
      obtain rfl : ps = [] := by rcases hg with e | e; omega; exact e
      refine ⟨lost, fun L t hG => ?_⟩
      have e : (a + ([] : List Pc).length + 0) % rgN short = a := Nat.mod_eq_of_lt h.lt
      rw [e] at hG ⊢
      exact hG
  have hput : ∀ {L t}, _ → AddR s 0 l L 0 t := fun {L t} hg => h.put (t := t) (L := L) hh (hG L t hg)
  clear hG hh h hg
  have hq : (a + ps.length + gap) % rgN short < rgN short := Nat.mod_lt _ (by omega)
  have hq1 : ((a + ps.length + gap) % rgN short + 1) % rgN short = (a + ps.length + gap + 1) % rgN short := by rw [Nat.mod_add_mod]
  generalize (a + ps.length + gap) % rgN short = q at *
  cases hf : p.first
  · refine ⟨_, _, [], lost', hput ?_, line_idle hq, by simp, by simpa using hq1⟩
    exact line_odd hq hf
  · cases hp : p.last
    · have h2 : ∀ k x, ([] ++ [p])[k]? = some x → x.first = decide (k = 0) := fun k x hk => by
        cases k with
        | zero => obtain rfl : p = x := by simpa using hk
                  exact hf
        | succ k => simp at hk
      have h1 : ∀ x ∈ [] ++ [p], x.last = false := fun x hx => by
        rw [List.nil_append, List.mem_singleton] at hx; subst hx; exact hp
      have hm1 := line_more (short := short) (most := most) (lost := lost') (ps := []) hq (by simp) h1 h2
      have hr1 := line_row (short := short) (most := most) (lost := lost') (ps := []) hq (by simp) h1 h2
      rw [List.length_nil, Nat.add_zero, Nat.mod_eq_of_lt hq] at hm1 hr1
      exact ⟨_, q, [p], lost', hput hm1, hr1, by simp, by simpa using hq1⟩
    · have h2 : ∀ k x, ([] ++ [p])[k]? = some x → x.first = decide (k = 0) := fun k x hk => by
        cases k with
        | zero => obtain rfl : p = x := by simpa using hk
                  exact hf
        | succ k => simp at hk
      have hm1 := line_end (short := short) (most := most) (lost := lost') (ps := []) hq (by simp) (by simp) h2 hp (by simpa [catB] using hm)
      rw [List.length_nil, Nat.add_zero, Nat.mod_eq_of_lt hq] at hm1
      refine ⟨_, _, [], lost', hput ?_, line_idle hq, by simp, by simpa using hq1⟩
      have e : catB ([] ++ [p]) = p.b := by simp [catB]
      rw [e] at hm1
      exact hm1
end
end Go.Proofs.Ytglmlhbchfgliaa
