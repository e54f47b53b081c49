/-
  A slice of integers that came in, as a row. No conditions.
-/
import Derived.Test.YtdfoimgckahjpaaLib
import Derived.ChangeSame
import Derived.OpenShut
namespace Go.Proofs.Ytdfoimgckahjpaa
open Go.ChangeShapes Go.WideShapes Go.RowKit
theorem row_of_trod {H : Type} {enc : TypeId × Value → H} {w : World} {base : Nat} {spare : Nat → Bool} {held : Bool} {a : Option Addr} {n c : Nat} {d : DataW H} {p : List MemPlace} {t e : TypeId} {k : IntKind}
    (ht : Try.prog.underlying t = some (.slice e)) (he : Try.prog.underlying e = some (.int k)) (hc : Try.prog.cellsOf e = 1) (hs : ∀ k, spare k = true)
    (h : DataW.Trod enc Try.prog w base spare held t (.slice a n c) d p) : ∃ zs, IsRow k w a n c zs := by
  obtain ⟨fuel, hf⟩ := h
  rcases open_ints ht he hc hf with ⟨hcs, _⟩ | ⟨x, l, cp, zs, hcs, _, hl, hm, hz, _, hcell, hwz⟩
  · simp [Value.cells] at hcs
    obtain ⟨rfl, rfl, rfl⟩ := hcs
    exact ⟨[], .inl ⟨rfl, rfl, rfl, rfl⟩⟩
  · simp [Value.cells] at hcs
    obtain ⟨rfl, rfl, rfl⟩ := hcs
    exact ⟨zs, .inr ⟨_, rfl, hl, hm, by simpa [hs] using hz, hcell, hwz⟩⟩
end Go.Proofs.Ytdfoimgckahjpaa
