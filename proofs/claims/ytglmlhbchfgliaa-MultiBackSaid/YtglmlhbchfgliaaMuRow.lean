/-
  A row of fragments that a call made: three cells each. No conditions.
-/
import Derived.Test.YtglmlhbchfgliaaMuGone
namespace Go.Proofs.Ytglmlhbchfgliaa
open Go.RowKit Go.Maps
/-- the cells of fragments whose bytes are the values vs -/
def pcCells : List Value → List Pc → List Value
  | v :: vs, p :: ps => .bool p.first :: .bool p.last :: v :: pcCells vs ps
  | _, _ => []
/-- a slice of fragments -/
structure Rn (w : World) (B : Nat) (v : Value) (ps : List Pc) : Prop where
  ex : ∃ vs, w.ownsRow B 75 3 v ps.length (pcCells vs ps) ∧ Each w B vs (ps.map (·.b))
theorem Rn.nil (w : World) (B : Nat) : Rn w B (.slice none 0 0) [] := ⟨[], World.ownsRow_nil _ _ _ _, trivial⟩
theorem pcCells_snoc : ∀ {vs : List Value} {ps : List Pc} {v : Value} {p : Pc}, vs.length = ps.length → pcCells (vs ++ [v]) (ps ++ [p]) = pcCells vs ps ++ [.bool p.first, .bool p.last, v]
  | [], [], _, _, _ => rfl
  | _ :: _, _ :: _, _, _, h => by simp [pcCells, pcCells_snoc (by simpa using h)]
  | [], _ :: _, _, _, h => by simp at h
  | _ :: _, [], _, _, h => by simp at h
theorem pcCells_at : ∀ {vs : List Value} {ps : List Pc} {k : Nat} {p : Pc} {v : Value}, ps[k]? = some p → vs[k]? = some v →
    (pcCells vs ps)[k * 3]? = some (.bool p.first) ∧ (pcCells vs ps)[k * 3 + 1]? = some (.bool p.last) ∧ (pcCells vs ps)[k * 3 + 2]? = some v
  | x :: _, q :: _, 0, p, v, h1, h2 => by
    simp only [List.getElem?_cons_zero, Option.some.injEq] at h1 h2
    subst h1; subst h2
    exact ⟨rfl, rfl, rfl⟩
  | x :: xs, q :: qs, k + 1, p, v, h1, h2 => by
    have := pcCells_at (vs := xs) (ps := qs) (k := k) (p := p) (v := v) (by simpa using h1) (by simpa using h2)
    have e : (k + 1) * 3 = k * 3 + 3 := by omega
    rw [e]
    exact this
  | [], _, _, _, _, _, h2 => by simp at h2
  | _ :: _, [], _, _, _, h1, _ => by simp at h1
/-- one fragment's cells -/
theorem Rn.at_ {w : World} {B : Nat} {v : Value} {ps : List Pc} (h : Rn w B v ps) {k : Nat} {p : Pc} (hp : ps[k]? = some p) : ∃ g c x, v = .slice (some ⟨g, 0, none⟩) ps.length c ∧ g < w.heap.size ∧
    w.cell? ⟨g, k * 3, none⟩ = some (.bool p.first) ∧ w.cell? ⟨g, k * 3 + 1, none⟩ = some (.bool p.last) ∧ w.cell? ⟨g, k * 3 + 2, none⟩ = some x ∧ w.ownsRow B 5 1 x p.b.length (p.b.map bv) := by
  obtain ⟨vs, h1, h2⟩ := h.ex
  have hk : k < ps.length := (List.getElem?_eq_some_iff.1 hp).1
  obtain ⟨x, hx1, hx2⟩ := h2.get (i := k) (by simpa using hk)
  have hb : (ps.map (·.b)).getD k [] = p.b := by simp [List.getD_eq_getElem?_getD, hp]
  rw [hb] at hx2
  obtain ⟨c0, c1, c2⟩ := pcCells_at hp hx1
  have hx := h1
  rcases h1.2 with ⟨rfl, h0⟩ | ⟨g, cap, cur, rfl, _, hg, _⟩
  · omega
  · refine ⟨g, cap, x, rfl, (Array.getElem?_eq_some_iff.1 hg).1, ?_, ?_, ?_, hx2⟩
    · exact (World.ownsRow.cellAt hx (k * 3) (by omega)).trans c0
    · exact (World.ownsRow.cellAt hx (k * 3 + 1) (by omega)).trans c1
    · exact (World.ownsRow.cellAt hx (k * 3 + 2) (by omega)).trans c2
end Go.Proofs.Ytglmlhbchfgliaa
