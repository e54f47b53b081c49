/-
  A slice of deeds (of six fields) that came in: what its cells are. No conditions.
-/
import Derived.Test.YtglmlhbchfgliaaLib
import Derived.Deep.Slices
import Derived.ChangeSame
import Derived.OpenShut
namespace Go.Proofs.Ytglmlhbchfgliaa
open Go.ChangeShapes Go.WideShapes Go.Deep Go.RowKit
/-- one deed: a link, a number, three flags, a row -/
structure DV where
  d : Int
  n : Int
  f1 : Bool
  f2 : Bool
  raw : Bool
  ba : Option Addr
  bn : Nat
  bc : Nat
  zs : List Int
/-- a number that fits an int -/
def I64 (x : Int) : Prop := -9223372036854775808 ≤ x ∧ x ≤ 9223372036854775807
/-- the slice (a, n, c) holds the deeds f -/
structure Deeds (w : World) (a : Option Addr) (n c : Nat) (f : Nat → DV) : Prop where
  cap : n ≤ c
  most : c ≤ 9223372036854775807
  cell : ∀ i, i < n → ∃ b o, a = some ⟨b, o, none⟩ ∧ w.cell? ⟨b, o + i * 6, none⟩ = some (.int .i64 (f i).d) ∧ w.cell? ⟨b, o + i * 6 + 1, none⟩ = some (.int .i64 (f i).n) ∧ w.cell? ⟨b, o + i * 6 + 2, none⟩ = some (.bool (f i).f1) ∧
    w.cell? ⟨b, o + i * 6 + 3, none⟩ = some (.bool (f i).f2) ∧ w.cell? ⟨b, o + i * 6 + 4, none⟩ = some (.bool (f i).raw) ∧ w.cell? ⟨b, o + i * 6 + 5, none⟩ = some (.slice (f i).ba (f i).bn (f i).bc)
  rng : ∀ i, i < n → I64 (f i).d ∧ I64 (f i).n
  row : ∀ i, i < n → IsRow .u8 w (f i).ba (f i).bn (f i).bc (f i).zs
section
variable {w w' : World} {a : Option Addr} {n c : Nat} {f : Nat → DV}
/-- read in a later world -/
theorem Deeds.at_ (h : Deeds w a n c f) (hb : Below w.heap.size w w') {i : Nat} (hi : i < n) : ∃ b o, a = some ⟨b, o, none⟩ ∧ w'.cell? ⟨b, o + i * 6, none⟩ = some (.int .i64 (f i).d) ∧ w'.cell? ⟨b, o + i * 6 + 1, none⟩ = some (.int .i64 (f i).n) ∧ w'.cell? ⟨b, o + i * 6 + 2, none⟩ = some (.bool (f i).f1) ∧
    w'.cell? ⟨b, o + i * 6 + 3, none⟩ = some (.bool (f i).f2) ∧ w'.cell? ⟨b, o + i * 6 + 4, none⟩ = some (.bool (f i).raw) ∧ w'.cell? ⟨b, o + i * 6 + 5, none⟩ = some (.slice (f i).ba (f i).bn (f i).bc) := by
  obtain ⟨b, o, rfl, h1, h2, h3, h4, h5, h6⟩ := h.cell i hi
  have hlt : b < w.heap.size := World.block_lt_of_cell? _ _ h1
  exact ⟨b, o, rfl, (hb.cell (p := ⟨b, _, none⟩) hlt).trans h1, (hb.cell (p := ⟨b, _, none⟩) hlt).trans h2, (hb.cell (p := ⟨b, _, none⟩) hlt).trans h3, (hb.cell (p := ⟨b, _, none⟩) hlt).trans h4, (hb.cell (p := ⟨b, _, none⟩) hlt).trans h5, (hb.cell (p := ⟨b, _, none⟩) hlt).trans h6⟩
theorem IsRow.below {k : IntKind} {zs : List Int} (h : IsRow k w a n c zs) (hb : Below w.heap.size w w') : IsRow k w' a n c zs := by
  rcases h with h | ⟨x, h1, h2, h3, h4, h5, h6⟩
  · exact .inl h
  · exact .inr ⟨x, h1, h2, h3, h4, fun i hi => (hb.cell (p := x.add i) (World.block_lt_of_cell? w _ (h5 i hi))).trans (h5 i hi), h6⟩
theorem Deeds.below (h : Deeds w a n c f) (hb : Below w.heap.size w w') : Deeds w' a n c f :=
  ⟨h.cap, h.most, fun _ hi => h.at_ hb hi, h.rng, fun i hi => (h.row i hi).below hb⟩
theorem Deeds.bts (h : Deeds w a n c f) {i : Nat} (hi : i < n) (hr : (f i).bn ≤ 140737488355328) : Bts w (f i).ba (f i).bn (f i).bc (toBytes ((f i).zs.take (f i).bn)) :=
  Bts.of_row (h.row i hi) _ (Nat.le_refl _) hr
end
theorem isRow_of_trod {H : Type} {enc : TypeId × Value → H} {w : World} {base : Nat} {spare : Nat → Bool} {held : Bool} {m : Nat} {v : Value} {y : DataW H × List MemPlace} (hs : ∀ k, spare k = true)
    (h : DataW.trod enc Try.prog w base spare held m 27 [v] = some y) : ∃ a n c zs, v = .slice a n c ∧ IsRow .u8 w a n c zs := by
  rcases open_ints Try.underlying27 Try.underlying5 (by kernel_rfl) h with ⟨hcs, _⟩ | ⟨x, l, c, zs, hcs, _, hl, hm, hz, _, hcell, hwz⟩
  · exact ⟨none, 0, 0, [], by simpa using hcs, .inl ⟨rfl, rfl, rfl, rfl⟩⟩
  · exact ⟨some x, l, c, zs, by simpa using hcs, .inr ⟨x, rfl, hl, hm, by simpa [hs] using hz, hcell, hwz⟩⟩
theorem i64_of_wf {z : Int} (h : (Lit.int .i64 z).wf = true) : I64 z := by
  simpa [I64, Lit.wf, IntKind.min, IntKind.max, IntKind.signed, IntKind.bits] using h
theorem spot_none {w : World} {x : Addr} {k : IntKind} {z : Int} (h0 : w.cell? x = some (.int k z)) : x.spot = none := by
  simp only [World.cell?] at h0
  split at h0
  · cases hs : x.spot with
    | none => rfl
    | some s => simp [hs] at h0
  · cases h0
theorem addr_add (b o j : Nat) : (⟨b, o, none⟩ : Addr).add j = ⟨b, o + j, none⟩ := by unfold Addr.add; split <;> simp_all
set_option maxRecDepth 100000 in
theorem open_deeds {H : Type} {enc : TypeId × Value → H} {w : World} {base : Nat} {spare : Nat → Bool} {held : Bool} {a : Option Addr} {n c : Nat} {d : DataW H} {p : List MemPlace} (hs : ∀ k, spare k = true)
    (h : DataW.Trod enc Try.prog w base spare held 51 (.slice a n c) d p) : ∃ f, Deeds w a n c f := by
  obtain ⟨fuel, hf⟩ := h
  rcases open_slice Try.underlying51 hf with ⟨hcs, _⟩ | ⟨x, l, cp, m, fu, D, Pl, hcs, _, hl, hm, hmm, _, hel⟩
  · simp [Value.cells] at hcs
    obtain ⟨rfl, rfl, rfl⟩ := hcs
    exact ⟨fun _ => ⟨0, 0, false, false, false, none, 0, 0, []⟩, Nat.le_refl _, by omega, fun i hi => by omega, fun i hi => by omega, fun i hi => by omega⟩
  · simp [Value.cells] at hcs
    obtain ⟨rfl, rfl, rfl⟩ := hcs
    have hC : Try.prog.cellsOf 56 = 6 := by kernel_rfl
    rw [hs, if_pos rfl] at hmm
    subst hmm
    have key : ∀ i, i < n → ∃ g : DV, (w.cell? (x.add (i * 6 + 0)) = some (.int .i64 g.d) ∧ w.cell? (x.add (i * 6 + 1)) = some (.int .i64 g.n) ∧ w.cell? (x.add (i * 6 + 2)) = some (.bool g.f1) ∧
        w.cell? (x.add (i * 6 + 3)) = some (.bool g.f2) ∧ w.cell? (x.add (i * 6 + 4)) = some (.bool g.raw) ∧ w.cell? (x.add (i * 6 + 5)) = some (.slice g.ba g.bn g.bc)) ∧ (I64 g.d ∧ I64 g.n) ∧ IsRow .u8 w g.ba g.bn g.bc g.zs := by
      intro i hi
      obtain ⟨cs', hc, ht⟩ := hel i (by omega)
      rw [hC] at hc
      obtain ⟨_, hcl, hat⟩ := World.cells?_some hc
      obtain ⟨ys, n', _, _, _, hyl, hg⟩ := DataW.trod_struct Try.underlying56 ht
      have e3 : Try.prog.cellsOf 3 = 1 := by kernel_rfl
      have e4 : Try.prog.cellsOf 4 = 1 := by kernel_rfl
      have e22 : Try.prog.cellsOf 27 = 1 := by kernel_rfl
      have hyl' : ys.length = 6 := hyl
      match cs', hcl, ys, hyl' with
      | [c0, c1, c2, c3, c4, c5], _, [y0, y1, y2, y3, y4, y5], _ =>
        have f0 : DataW.trod enc Try.prog w base spare held n' 3 (([c0, c1, c2, c3, c4, c5].drop 0).take (Try.prog.cellsOf 3)) = some y0 := hg 0 _ rfl
        have f1 : DataW.trod enc Try.prog w base spare held n' 3 (([c0, c1, c2, c3, c4, c5].drop 1).take (Try.prog.cellsOf 3)) = some y1 := hg 1 _ rfl
        have f2 : DataW.trod enc Try.prog w base spare held n' 4 (([c0, c1, c2, c3, c4, c5].drop 2).take (Try.prog.cellsOf 4)) = some y2 := hg 2 _ rfl
        have f3 : DataW.trod enc Try.prog w base spare held n' 4 (([c0, c1, c2, c3, c4, c5].drop 3).take (Try.prog.cellsOf 4)) = some y3 := hg 3 _ rfl
        have f4 : DataW.trod enc Try.prog w base spare held n' 4 (([c0, c1, c2, c3, c4, c5].drop 4).take (Try.prog.cellsOf 4)) = some y4 := hg 4 _ rfl
        have f5 : DataW.trod enc Try.prog w base spare held n' 27 (([c0, c1, c2, c3, c4, c5].drop 5).take (Try.prog.cellsOf 27)) = some y5 := hg 5 _ rfl
        rw [e3] at f0 f1
        rw [e4] at f2 f3 f4
        rw [e22] at f5
        obtain ⟨z0, q0, _, w0⟩ := DataW.trod_int Try.underlying3 f0
        obtain ⟨z1, q1, _, w1⟩ := DataW.trod_int Try.underlying3 f1
        obtain ⟨z2, q2, _⟩ := DataW.trod_bool Try.underlying4 f2
        obtain ⟨z3, q3, _⟩ := DataW.trod_bool Try.underlying4 f3
        obtain ⟨z4, q4, _⟩ := DataW.trod_bool Try.underlying4 f4
        obtain ⟨ra, rn, rc, rz, q5, hrow⟩ := isRow_of_trod hs f5
        have r0 : c0 = .int .i64 z0 := by simpa using q0
        have r1 : c1 = .int .i64 z1 := by simpa using q1
        have r2 : c2 = .bool z2 := by simpa using q2
        have r3 : c3 = .bool z3 := by simpa using q3
        have r4 : c4 = .bool z4 := by simpa using q4
        subst r0; subst r1; subst r2; subst r3; subst r4; subst q5
        have k0 := hat 0 (by decide)
        have k1 := hat 1 (by decide)
        have k2 := hat 2 (by decide)
        have k3 := hat 3 (by decide)
        have k4 := hat 4 (by decide)
        have k5 := hat 5 (by decide)
        simp only [add_add, List.getElem?_cons_zero, List.getElem?_cons_succ] at k0 k1 k2 k3 k4 k5
        exact ⟨⟨z0, z1, z2, z3, z4, ra, rn, rc, rz⟩, ⟨k0, k1, k2, k3, k4, k5⟩, ⟨i64_of_wf w0, i64_of_wf w1⟩, hrow⟩
    have hch : ∀ i, ∃ g : DV, i < n → (w.cell? (x.add (i * 6 + 0)) = some (.int .i64 g.d) ∧ w.cell? (x.add (i * 6 + 1)) = some (.int .i64 g.n) ∧ w.cell? (x.add (i * 6 + 2)) = some (.bool g.f1) ∧
        w.cell? (x.add (i * 6 + 3)) = some (.bool g.f2) ∧ w.cell? (x.add (i * 6 + 4)) = some (.bool g.raw) ∧ w.cell? (x.add (i * 6 + 5)) = some (.slice g.ba g.bn g.bc)) ∧ (I64 g.d ∧ I64 g.n) ∧ IsRow .u8 w g.ba g.bn g.bc g.zs := by
      intro i
      by_cases hi : i < n
      · obtain ⟨g, hg⟩ := key i hi
        exact ⟨g, fun _ => hg⟩
      · exact ⟨⟨0, 0, false, false, false, none, 0, 0, []⟩, fun h => absurd h hi⟩
    obtain ⟨g, hg⟩ : ∃ g : Nat → DV, ∀ i, i < n → (w.cell? (x.add (i * 6 + 0)) = some (.int .i64 (g i).d) ∧ w.cell? (x.add (i * 6 + 1)) = some (.int .i64 (g i).n) ∧ w.cell? (x.add (i * 6 + 2)) = some (.bool (g i).f1) ∧
        w.cell? (x.add (i * 6 + 3)) = some (.bool (g i).f2) ∧ w.cell? (x.add (i * 6 + 4)) = some (.bool (g i).raw) ∧ w.cell? (x.add (i * 6 + 5)) = some (.slice (g i).ba (g i).bn (g i).bc)) ∧ (I64 (g i).d ∧ I64 (g i).n) ∧ IsRow .u8 w (g i).ba (g i).bn (g i).bc (g i).zs :=
      ⟨fun i => (hch i).choose, fun i => (hch i).choose_spec⟩
    refine ⟨g, hl, by unfold maxLen at hm; exact hm, fun i hi => ?_, fun i hi => (hg i hi).2.1, fun i hi => (hg i hi).2.2⟩
    have h4 := (hg i hi).1
    have h0 := (hg 0 (by omega)).1.1
    have hx : x.add (0 * 6 + 0) = x := by simp [Addr.add]
    rw [hx] at h0
    have hsp := spot_none h0
    obtain ⟨b, o, s⟩ := x
    simp only at hsp
    subst hsp
    simp only [addr_add, Nat.add_zero] at h4
    refine ⟨b, o, rfl, h4.1, ?_, ?_, ?_, ?_, ?_⟩
    · rw [Nat.add_assoc]; exact h4.2.1
    · rw [Nat.add_assoc]; exact h4.2.2.1
    · rw [Nat.add_assoc]; exact h4.2.2.2.1
    · rw [Nat.add_assoc]; exact h4.2.2.2.2.1
    · rw [Nat.add_assoc]; exact h4.2.2.2.2.2
end Go.Proofs.Ytglmlhbchfgliaa
