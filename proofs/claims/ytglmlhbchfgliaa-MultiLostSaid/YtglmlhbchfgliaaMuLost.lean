/-
  A datagram's fragments on one link, some of them missing: plainly. No conditions.
-/
import Derived.Test.YtglmlhbchfgliaaMuRound
namespace Go.Proofs.Ytglmlhbchfgliaa
open Go.RowKit Go.Maps
/-- the state within a datagram: of so many fragments all came, or not -/
structure MidL (s : JS) (short : Bool) (l : List UInt8) (L : List (List UInt8)) (S nx k n1 fu G : Nat) (A l1 : List UInt8) (whole : Bool) : Prop where
  split : l = A ++ l1
  rest : L.drop k = (cutF (rgN short) S short fu (flagN (decide (k = 0)) false) n1 l1).1
  num : n1 = (nx + k) % rgN short
  fuel : l1.length ≤ fu
  first : k = 0 → A = [] ∧ whole = true
  line : ∃ a ps gap lost, Line s short 4096 a ps gap lost ∧ (a + ps.length + gap) % rgN short = n1 ∧ ps.length + gap ≤ G ∧
    ((whole = true ∧ 0 < k ∧ k < L.length ∧ gap = 0 ∧ ps.length = k ∧ catB ps = A) ∨ (¬ (whole = true ∧ 0 < k ∧ k < L.length) ∧ (1 ≤ gap ∨ ps = [])))
section
variable {s : JS} {short : Bool} {l A l1 : List UInt8} {L : List (List UInt8)} {S nx k n1 fu G : Nat} {whole : Bool}
theorem n1_next (h : n1 = (nx + k) % rgN short) : (n1 + 1) % rgN short = (nx + (k + 1)) % rgN short := by
  rw [h, Nat.mod_add_mod, Nat.add_assoc]
/-- a fragment is missing -/
theorem MidL.miss (h : MidL s short l L S nx k n1 fu G A l1 whole) (hS : 0 < S) (hk : k < L.length) (hG : G < 900) :
    ∃ n2, MidL s short l L S nx (k + 1) n2 (fu - 1) (G + 1) (A ++ l1.take S) (l1.drop S) false := by
  obtain ⟨a, ps, gap, lost, hline, hnum, hGl, _⟩ := h.line
  obtain ⟨h0, hel, hdr, hlast, hfu⟩ := frag_at hS hk h.fuel h.rest
  refine ⟨(n1 + 1) % rgN short, ⟨by rw [List.append_assoc, List.take_append_drop]; exact h.split, ?_, n1_next h.num, hfu, by omega, a, ps, gap + 1, lost, hline.miss (by omega), ?_, by omega, Or.inr ⟨by simp, Or.inl (by omega)⟩⟩⟩
  · rw [decide_eq_false (by omega)]
    exact hdr
  · rw [← hnum, Nat.mod_add_mod, Nat.add_assoc, Nat.add_assoc, Nat.add_assoc]
/-- a fragment comes -/
theorem MidL.add (h : MidL s short l L S nx k n1 fu G A l1 whole) (hS : 0 < S) (hk : k < L.length) (hL : L.length ≤ 16) (hl : l.length ≤ 100) :
    ∃ t n2, AddR s 0 (L.getD k []) (if whole = true ∧ k + 1 = L.length then [l] else []) 0 t ∧ MidL t short l L S nx (k + 1) n2 (fu - 1) (G + 1) (A ++ l1.take S) (l1.drop S) whole := by
  obtain ⟨a, ps, gap, lost, hline, hnum, hGl, hcase⟩ := h.line
  obtain ⟨h0, hel, hdr, hlast, hfu⟩ := frag_at hS hk h.fuel h.rest
  have hR := rgN_big short
  have hn1 : n1 < rgN short := by rw [h.num]; exact Nat.mod_lt _ (by omega)
  have hhd : headP (L.getD k []) short = ⟨n1, decide (k = 0), decide (l1.length ≤ S), l1.take S, 0⟩ := by rw [hel]; exact headP_headB hn1 _
  have hsp := h.split
  have hlen : l.length = A.length + l1.length := by rw [hsp, List.length_append]
  have hsp2 : l = (A ++ l1.take S) ++ l1.drop S := by rw [List.append_assoc, List.take_append_drop]; exact hsp
  have hdr2 : L.drop (k + 1) = (cutF (rgN short) S short (fu - 1) (flagN (decide (k + 1 = 0)) false) ((n1 + 1) % rgN short) (l1.drop S)).1 := by
    rw [decide_eq_false (by omega)]
    exact hdr
  rcases hcase with ⟨hw, hk0, _, rfl, hpl, hcat⟩ | ⟨hnw, hga⟩
  · -- what is held goes on
    have hcl : catB (ps ++ [⟨decide (k = 0), decide (l1.length ≤ S), l1.take S⟩]) = A ++ l1.take S := by
      have e : catB (ps ++ [⟨decide (k = 0), decide (l1.length ≤ S), l1.take S⟩]) = catB ps ++ l1.take S := by simp [catB]
      rw [e, hcat]
    rw [Nat.add_zero] at hnum
    obtain ⟨t, a', ps', h1, h2, h3, h4⟩ := hline.cont (p := ⟨decide (k = 0), decide (l1.length ≤ S), l1.take S⟩) (l := L.getD k []) (by rw [hhd]; congr 1; exact hnum.symm) (by rw [hpl]) (by omega) (by rw [hcl, List.length_append, List.length_take]; omega)
    have h5 : (a' + ps'.length + 0) % rgN short = (n1 + 1) % rgN short := by rw [Nat.add_zero, h4, ← hnum, Nat.mod_add_mod]
    refine ⟨t, (n1 + 1) % rgN short, ?_, ⟨hsp2, hdr2, n1_next h.num, hfu, by omega, a', ps', 0, lost, h2, h5, ?_, ?_⟩⟩
    · by_cases he : k + 1 = L.length
      · have hle := hlast.1 he
        rw [if_pos ⟨hw, he⟩]
        simp only [decide_eq_true hle, if_true] at h1
        rw [decide_eq_true hle] at hcl
        rw [hcl, List.take_of_length_le hle, ← hsp] at h1
        exact h1
      · have hle : ¬ l1.length ≤ S := fun e => he (hlast.2 e)
        rw [if_neg (by simp [he])]
        simpa [decide_eq_false hle] using h1
    · rw [h3]
      dsimp only
      split
      · simp
      · simp; omega
    · by_cases he : k + 1 = L.length
      · have hle := hlast.1 he
        right
        refine ⟨by omega, Or.inr ?_⟩
        rw [decide_eq_true hle] at h3
        simpa using h3
      · have hle : ¬ l1.length ≤ S := fun e => he (hlast.2 e)
        left
        rw [decide_eq_false hle] at h3 hcl
        simp only [Bool.false_eq_true, if_false] at h3
        refine ⟨hw, by omega, by omega, rfl, ?_, ?_⟩
        · rw [h3, List.length_append, List.length_singleton, hpl]
        · rw [h3]; exact hcl
  · -- it stands alone
    obtain ⟨t, a', ps', lost', h1, h2, h3, h4⟩ := hline.alone (p := ⟨decide (k = 0), decide (l1.length ≤ S), l1.take S⟩) (l := L.getD k []) (by rw [hhd]; congr 1; exact hnum.symm) hga (by rw [List.length_take]; omega)
    have h5 : (a' + ps'.length + 0) % rgN short = (n1 + 1) % rgN short := by rw [Nat.add_zero, h4, ← hnum, Nat.mod_add_mod]
    refine ⟨t, (n1 + 1) % rgN short, ?_, ⟨hsp2, hdr2, n1_next h.num, hfu, by omega, a', ps', 0, lost', h2, h5, ?_, ?_⟩⟩
    · by_cases hk0 : k = 0
      · obtain ⟨rfl, hw⟩ := h.first hk0
        rw [List.nil_append] at hsp
        by_cases he : k + 1 = L.length
        · have hle := hlast.1 he
          rw [if_pos ⟨hw, he⟩]
          simp only [decide_eq_true hle, decide_eq_true hk0, Bool.and_self, if_true] at h1
          rw [List.take_of_length_le hle, ← hsp] at h1
          exact h1
        · have hle : ¬ l1.length ≤ S := fun e => he (hlast.2 e)
          rw [if_neg (by simp [he])]
          simpa [decide_eq_false hle] using h1
      · have hwf : ¬ (whole = true ∧ k + 1 = L.length) := fun e => hnw ⟨e.1, by omega, hk⟩
        rw [if_neg hwf]
        simpa [decide_eq_false hk0] using h1
    · rw [h3]
      split
      · simp
      · simp
    · by_cases hk0 : k = 0
      · obtain ⟨rfl, hw⟩ := h.first hk0
        by_cases he : k + 1 = L.length
        · have hle := hlast.1 he
          right
          refine ⟨by omega, Or.inr ?_⟩
          simpa [decide_eq_true hle] using h3
        · have hle : ¬ l1.length ≤ S := fun e => he (hlast.2 e)
          left
          simp only [decide_eq_true hk0, decide_eq_false hle, Bool.not_false, Bool.and_self, if_true] at h3
          refine ⟨hw, by omega, by omega, rfl, ?_, ?_⟩
          · rw [h3, hk0]; rfl
          · rw [h3]; simp [catB]
      · have hwf : whole ≠ true := fun e => hnw ⟨e, by omega, hk⟩
        right
        refine ⟨fun e => hwf e.1, Or.inr ?_⟩
        simpa [decide_eq_false hk0] using h3
end
end Go.Proofs.Ytglmlhbchfgliaa
