/-
  A slice of numbers that came in, read as a script; a machine that plays it.
-/
import Derived.Test.YtjcigaonadkhkaaFsmL1
namespace Go.Proofs.Ytjcigaonadkhkaa
open Go.RowKit
/-- the slice holds these numbers -/
def Its (w : World) (a : Option Addr) (n : Nat) (l : List Int) : Prop :=
  l.length = n ∧ n ≤ 9223372036854775807 ∧ ∀ j (h : j < l.length), ∃ b o, a = some ⟨b, o, none⟩ ∧ b < w.heap.size ∧ w.cell? ⟨b, o + j, none⟩ = some (.int .i64 l[j])
theorem Its.of_row {w : World} {a : Option Addr} {len cap : Nat} {zs : List Int} (h : IsRow .i64 w a len cap zs) : Its w a len (zs.take len) := by
  have hle := h.le
  rcases h with ⟨rfl, rfl, rfl, rfl⟩ | ⟨x, rfl, h1, h2, h3, h4, h5⟩
  · exact ⟨rfl, by omega, fun j hj => by simp at hj⟩
  · refine ⟨by simp; omega, by omega, fun j hj => ?_⟩
    simp only [List.length_take] at hj
    have hc := h4 j (by omega)
    have hx : x.spot = none := by
      have h0 := h4 0 (by omega)
      simp only [Addr.add, if_pos, World.cell?] at h0
      split at h0
      · cases hs : x.spot with
        | none => rfl
        | some s => simp [hs] at h0
      · cases h0
    obtain ⟨b, o, s⟩ := x
    simp only at hx
    subst hx
    have ha : (⟨b, o, none⟩ : Addr).add j = ⟨b, o + j, none⟩ := by unfold Addr.add; split <;> simp_all
    rw [ha] at hc
    refine ⟨b, o, rfl, World.block_lt_of_cell? w _ hc, ?_⟩
    rw [hc]
    simp [List.getD_eq_getElem?_getD, List.getElem?_eq_getElem (show j < zs.length by omega)]
theorem Its.at_ {w w' : World} {a : Option Addr} {n : Nat} {l : List Int} (h : Its w a n l) (hb : Below w.heap.size w w') {j : Nat} (hj : j < n) :
    ∃ b o x, a = some ⟨b, o, none⟩ ∧ b < w.heap.size ∧ w'.cell? ⟨b, o + j, none⟩ = some (.int .i64 x) ∧ l.take (j + 1) = l.take j ++ [x] := by
  obtain ⟨h1, _, h2⟩ := h
  obtain ⟨b, o, rfl, h3, h4⟩ := h2 j (by omega)
  exact ⟨b, o, _, rfl, h3, (hb.cell (p := ⟨b, o + j, none⟩) h3).trans h4, by rw [List.take_succ_eq_append_getElem (by omega)]⟩
/-- a machine that has played a part of a script -/
def Plays (w : World) (b : Nat) (m0 : M) (l : List Int) : Prop := Mac w b (gosM m0 l)
theorem Plays.start {w : World} {b : Nat} {m0 : M} {l : List Int} (h : Mac w b m0) : Plays w b m0 (l.take 0) := by simpa [Plays, gosM] using h
end Go.Proofs.Ytjcigaonadkhkaa
