/-
  A slice of rows of bytes that came in: what its cells are. No conditions.
-/
import Derived.Test.YtglmlhbchfgliaaLib
import Derived.Deep.Slices
import Derived.ChangeSame
import Derived.OpenShut
namespace Go.Proofs.Ytglmlhbchfgliaa
open Go.ChangeShapes Go.WideShapes Go.Deep Go.RowKit
/-- one row -/
structure RowV where
  ba : Option Addr
  bn : Nat
  bc : Nat
  zs : List Int
/-- its bytes -/
def RowV.bytes (r : RowV) : List UInt8 := toBytes (r.zs.take r.bn)
/-- the slice (a, n, c) holds the rows f -/
structure Rws (w : World) (a : Option Addr) (n c : Nat) (f : Nat → RowV) : Prop where
  cap : n ≤ c
  most : c ≤ 9223372036854775807
  cell : ∀ i, i < n → ∃ b o, a = some ⟨b, o, none⟩ ∧ w.cell? ⟨b, o + i, none⟩ = some (.slice (f i).ba (f i).bn (f i).bc)
  row : ∀ i, i < n → IsRow .u8 w (f i).ba (f i).bn (f i).bc (f i).zs
section
variable {w w' : World} {a : Option Addr} {n c : Nat} {f : Nat → RowV}
theorem isRow_below {k : IntKind} {zs : List Int} (h : IsRow k w a n c zs) (hb : Below w.heap.size w w') : IsRow k w' a n c zs := by
  rcases h with h | ⟨x, h1, h2, h3, h4, h5, h6⟩
  · exact .inl h
  · exact .inr ⟨x, h1, h2, h3, h4, fun i hi => (hb.cell (p := x.add i) (World.block_lt_of_cell? w _ (h5 i hi))).trans (h5 i hi), h6⟩
theorem Rws.at_ (h : Rws w a n c f) (hb : Below w.heap.size w w') {i : Nat} (hi : i < n) : ∃ b o, a = some ⟨b, o, none⟩ ∧ b < w.heap.size ∧ w'.cell? ⟨b, o + i, none⟩ = some (.slice (f i).ba (f i).bn (f i).bc) := by
  obtain ⟨b, o, rfl, h1⟩ := h.cell i hi
  have hlt : b < w.heap.size := World.block_lt_of_cell? _ _ h1
  exact ⟨b, o, rfl, hlt, (hb.cell (p := ⟨b, _, none⟩) hlt).trans h1⟩
theorem Rws.bts (h : Rws w a n c f) {i : Nat} (hi : i < n) (hr : (f i).bn ≤ 140737488355328) : Bts w (f i).ba (f i).bn (f i).bc (f i).bytes :=
  Bts.of_row (h.row i hi) _ (Nat.le_refl _) hr
theorem Rws.len (h : Rws w a n c f) {i : Nat} (hi : i < n) : (f i).bn ≤ (f i).bc ∧ (f i).bc ≤ 9223372036854775807 := by
  have := (h.row i hi).le; exact ⟨this.1, this.2.1⟩
end
theorem row_of_cells {H : Type} {enc : TypeId × Value → H} {w : World} {base : Nat} {spare : Nat → Bool} {held : Bool} {m : Nat} {v : Value} {y : DataW H × List MemPlace} (hs : ∀ k, spare k = true)
    (h : DataW.trod enc Try.prog w base spare held m 27 [v] = some y) : ∃ a n c zs, v = .slice a n c ∧ IsRow .u8 w a n c zs := by
  rcases open_ints Try.underlying27 Try.underlying5 (by kernel_rfl) h with ⟨hcs, _⟩ | ⟨x, l, c, zs, hcs, _, hl, hm, hz, _, hcell, hwz⟩
  · exact ⟨none, 0, 0, [], by simpa using hcs, .inl ⟨rfl, rfl, rfl, rfl⟩⟩
  · exact ⟨some x, l, c, zs, by simpa using hcs, .inr ⟨x, rfl, hl, hm, by simpa [hs] using hz, hcell, hwz⟩⟩
theorem spot_slice {w : World} {x : Addr} {a : Option Addr} {n c : Nat} (h0 : w.cell? x = some (.slice a n c)) : x.spot = none := by
  simp only [World.cell?] at h0
  split at h0
  · cases hs : x.spot with
    | none => rfl
    | some s => simp [hs] at h0
  · cases h0
theorem radd (b o j : Nat) : (⟨b, o, none⟩ : Addr).add j = ⟨b, o + j, none⟩ := by unfold Addr.add; split <;> simp_all
set_option maxRecDepth 100000 in
theorem open_rows {H : Type} {enc : TypeId × Value → H} {w : World} {base : Nat} {spare : Nat → Bool} {held : Bool} {a : Option Addr} {n c : Nat} {d : DataW H} {p : List MemPlace} (hs : ∀ k, spare k = true)
    (h : DataW.Trod enc Try.prog w base spare held 23 (.slice a n c) d p) : ∃ f, Rws w a n c f := by
  obtain ⟨fuel, hf⟩ := h
  rcases open_slice Try.underlying23 hf with ⟨hcs, _⟩ | ⟨x, l, cp, m, fu, D, Pl, hcs, _, hl, hm, hmm, _, hel⟩
  · simp [Value.cells] at hcs
    obtain ⟨rfl, rfl, rfl⟩ := hcs
    exact ⟨fun _ => ⟨none, 0, 0, []⟩, Nat.le_refl _, by omega, fun i hi => by omega, fun i hi => by omega⟩
  · simp [Value.cells] at hcs
    obtain ⟨rfl, rfl, rfl⟩ := hcs
    have hC : Try.prog.cellsOf 27 = 1 := by kernel_rfl
    rw [hs, if_pos rfl] at hmm
    subst hmm
    have key : ∀ i, i < n → ∃ g : RowV, w.cell? (x.add i) = some (.slice g.ba g.bn g.bc) ∧ IsRow .u8 w g.ba g.bn g.bc g.zs := by
      intro i hi
      obtain ⟨cs', hc, ht⟩ := hel i (by omega)
      rw [hC] at hc
      obtain ⟨_, hcl, hat⟩ := World.cells?_some hc
      match cs', hcl with
      | [c0], _ =>
        obtain ⟨ra, rn, rc, rz, q3, hrow⟩ := row_of_cells hs ht
        subst q3
        have k0 := hat 0 (by decide)
        simp only [List.getElem?_cons_zero, Nat.mul_one] at k0
        exact ⟨⟨ra, rn, rc, rz⟩, by simpa [Addr.add] using k0, hrow⟩
    have hch : ∀ i, ∃ g : RowV, i < n → w.cell? (x.add i) = some (.slice g.ba g.bn g.bc) ∧ IsRow .u8 w g.ba g.bn g.bc g.zs := by
      intro i
      by_cases hi : i < n
      · obtain ⟨g, hg⟩ := key i hi
        exact ⟨g, fun _ => hg⟩
      · exact ⟨⟨none, 0, 0, []⟩, fun h => absurd h hi⟩
    obtain ⟨g, hg⟩ : ∃ g : Nat → RowV, ∀ i, i < n → w.cell? (x.add i) = some (.slice (g i).ba (g i).bn (g i).bc) ∧ IsRow .u8 w (g i).ba (g i).bn (g i).bc (g i).zs :=
      ⟨fun i => (hch i).choose, fun i => (hch i).choose_spec⟩
    refine ⟨g, hl, by unfold maxLen at hm; exact hm, fun i hi => ?_, fun i hi => (hg i hi).2⟩
    have h4 := (hg i hi).1
    have h0 := (hg 0 (by omega)).1
    have hx : x.add 0 = x := by simp [Addr.add]
    rw [hx] at h0
    have hsp := spot_slice h0
    obtain ⟨b, o, s⟩ := x
    simp only at hsp
    subst hsp
    rw [radd] at h4
    exact ⟨b, o, rfl, h4⟩
end Go.Proofs.Ytglmlhbchfgliaa
