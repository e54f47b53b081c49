/-
  A Joiner: its model, where it lies, what it says of itself. No conditions.
-/
import Derived.Test.YtglmlhbchfgliaaMuMap
import Derived.Test.YtglmlhbchfgliaaMuBase
import Derived.Test.YtglmlhbchfgliaaMuFr
import Derived.Lib.Hide
namespace Go.Proofs.Ytglmlhbchfgliaa
open Go.RowKit Go.Maps
/-- a fragment that waits -/
structure Pc where
  first : Bool
  last : Bool
  b : List UInt8
/-- a joiner: plainly -/
structure JS where
  short : Bool
  most : Nat
  next : Nat
  last : List Int
  held : List (Nat × Pc)
  lost : Nat
/-- a fragment as a value -/
def pcV (p : Pc) (v : Value) : Value := .agg #[.bool p.first, .bool p.last, v]
/-- the values hv are the fragments hs -/
def Parts (w : World) (B : Nat) : List (Nat × Value) → List (Nat × Pc) → Prop
  | [], [] => True
  | x :: xs, p :: ps => x.1 = p.1 ∧ (∃ v, x.2 = pcV p.2 v ∧ w.ownsRow B 5 1 v p.2.b.length (p.2.b.map bv)) ∧ Parts w B xs ps
  | _, _ => False
section
variable {w w' : World} {B : Nat}
theorem Parts.length : ∀ {hv : List (Nat × Value)} {hs : List (Nat × Pc)}, Parts w B hv hs → hv.length = hs.length
  | [], [], _ => rfl
  | _ :: _, _ :: _, h => by simp [Parts.length h.2.2]
  | [], _ :: _, h => h.elim
  | _ :: _, [], h => h.elim
theorem Parts.keys : ∀ {hv : List (Nat × Value)} {hs : List (Nat × Pc)}, Parts w B hv hs → hv.map (·.1) = hs.map (·.1)
  | [], [], _ => rfl
  | _ :: _, _ :: _, h => by simp [h.1, Parts.keys h.2.2]
  | [], _ :: _, h => h.elim
  | _ :: _, [], h => h.elim
theorem Parts.snoc : ∀ {hv : List (Nat × Value)} {hs : List (Nat × Pc)} {n : Nat} {p : Pc} {v : Value}, Parts w B hv hs → w.ownsRow B 5 1 v p.b.length (p.b.map bv) → Parts w B (hv ++ [(n, pcV p v)]) (hs ++ [(n, p)])
  | [], [], _, _, _, _, h => ⟨rfl, ⟨_, rfl, h⟩, trivial⟩
  | _ :: _, _ :: _, _, _, _, h, k => ⟨h.1, h.2.1, Parts.snoc h.2.2 k⟩
  | [], _ :: _, _, _, _, h, _ => h.elim
  | _ :: _, [], _, _, _, h, _ => h.elim
theorem Parts.filter (f : Nat → Bool) : ∀ {hv : List (Nat × Value)} {hs : List (Nat × Pc)}, Parts w B hv hs → Parts w B (hv.filter fun p => f p.1) (hs.filter fun p => f p.1)
  | [], [], _ => trivial
  | x :: _, p :: _, h => by
    have h1 := Parts.filter f h.2.2
    have e : f x.1 = f p.1 := by rw [h.1]
    simp only [List.filter_cons, e]
    split
    · exact ⟨h.1, h.2.1, h1⟩
    · exact h1
  | [], _ :: _, h => h.elim
  | _ :: _, [], h => h.elim
theorem Parts.but {K : Nat → Prop} (hb : ButOf K w w') (hn : ∀ {v : Value} {l : List UInt8}, w.ownsRow B 5 1 v l.length (l.map bv) → ∀ k, v.ownBlock = some k → ¬ K k) : ∀ {hv : List (Nat × Value)} {hs : List (Nat × Pc)}, Parts w B hv hs → Parts w' B hv hs
  | [], [], _ => trivial
  | _ :: _, _ :: _, h => by
    obtain ⟨h1, ⟨v, h2, h3⟩, h4⟩ := h
    exact ⟨h1, ⟨v, h2, own_but h3 hb (hn h3)⟩, Parts.but hb hn h4⟩
  | [], _ :: _, h => h.elim
  | _ :: _, [], h => h.elim
theorem Parts.mono {B' : Nat} (hB : B' ≤ B) : ∀ {hv : List (Nat × Value)} {hs : List (Nat × Pc)}, Parts w B hv hs → Parts w B' hv hs
  | [], [], _ => trivial
  | _ :: _, _ :: _, h => by
    obtain ⟨h1, ⟨v, h2, h3⟩, h4⟩ := h
    exact ⟨h1, ⟨v, h2, own_mono h3 hB⟩, Parts.mono hB h4⟩
  | [], _ :: _, h => h.elim
  | _ :: _, [], h => h.elim
theorem Parts.get : ∀ {hv : List (Nat × Value)} {hs : List (Nat × Pc)}, Parts w B hv hs → ∀ {i : Nat} {n : Nat} {p : Pc}, hs[i]? = some (n, p) → ∃ v, hv[i]? = some (n, pcV p v) ∧ w.ownsRow B 5 1 v p.b.length (p.b.map bv)
  | x :: _, q :: _, h, 0, n, p, hi => by
    obtain ⟨h1, ⟨v, h2, h3⟩, h4⟩ := h
    simp only [List.getElem?_cons_zero, Option.some.injEq] at hi
    subst hi
    refine ⟨v, ?_, h3⟩
    simp only [List.getElem?_cons_zero, Option.some.injEq]
    exact Prod.ext h1 h2
  | _ :: _, _ :: _, h, i + 1, n, p, hi => by
    have := Parts.get h.2.2 (i := i) (by simpa using hi)
    simpa using this
  | [], _ :: _, h, _, _, _, _ => h.elim
  | _ :: _, [], h, _, _, _, _ => h.elim
  | [], [], _, _, _, _, hi => by simp at hi
end
theorem lawInt : Keyed Try.prog 3 := int_keyed Try.underlying3
/-- the blocks of a joiner that its calls may write -/
def JFoot (b bm : Nat) (vl : Value) (k : Nat) : Prop := k = b ∨ k = bm ∨ vl.ownBlock = some k
/-- numbers as values -/
def zv (x : Int) : Value := .int .i64 x
/-- the joiner s lies at b, its map at bm, its row at vl; all of it lies from B on -/
structure Jo (w : World) (B b bm : Nat) (vl : Value) (s : JS) : Prop where
  blk : Blk w b #[.bool true, .int .i64 (s.most : Nat), .bool s.short, .int .i64 (s.next : Nat), .map (some bm), vl, .int .i64 (wrap64 (s.lost : Nat))] 71
  row : w.ownsRow B 3 1 vl s.last.length (s.last.map zv)
  map : ∃ D hv, w.ownsMap Try.prog 3 asIs bm s.held.length D ∧ DMap D hv ∧ Parts w B hv s.held
  base : B ≤ b
  bmap : B ≤ bm
  next : s.next < rgN s.short
  few : s.held.length ≤ 100
  num : ∀ p ∈ s.held, p.1 < rgN s.short
  lst : ∀ x ∈ s.last, -1 ≤ x ∧ x < (rgN s.short : Int)
theorem ownsMap_but {H : Type} {P : Program} {k : TypeId} {R : Value → Option (DataW H × List MemPlace)} {w w' : World} {b n : Nat} {D : DataW H} {K : Nat → Prop} (h : w.ownsMap P k R b n D) (hb : ButOf K w w') (hn : ¬ K b) : w'.ownsMap P k R b n D := by
  have hlt := h.lt
  obtain ⟨es, clock, h1, F, hs, hD⟩ := h
  exact ⟨es, clock, (hb.block b hlt hn).trans h1, F, hs, hD⟩
/-- a map is no own row, and no block of cells -/
theorem ownsMap_own {H : Type} {P : Program} {k : TypeId} {R : Value → Option (DataW H × List MemPlace)} {w : World} {b n B E size m : Nat} {D : DataW H} {v : Value} {xs : List Value} (h : w.ownsMap P k R b n D) (ho : w.ownsRow B E size v m xs) : v.ownBlock ≠ some b := by
  obtain ⟨es, clock, h1, _⟩ := h
  rcases ho.2 with ⟨rfl, _⟩ | ⟨g, cap, cur, rfl, _, hh, _⟩
  · simp [Value.ownBlock]
  · intro e
    simp only [Value.ownBlock, Option.some.injEq] at e
    subst e
    rw [hh] at h1
    cases h1
theorem ownsMap_blk {H : Type} {P : Program} {k : TypeId} {R : Value → Option (DataW H × List MemPlace)} {w : World} {b n b' : Nat} {D : DataW H} {cs : Array Value} {T : TypeId} (h : w.ownsMap P k R b n D) (ho : Blk w b' cs T) : b' ≠ b := by
  obtain ⟨es, clock, h1, _⟩ := h
  rintro rfl
  unfold Blk at ho
  rw [ho] at h1
  cases h1
/-- the map's bound is its length -/
theorem ownsMap_tight {P : Program} {k : TypeId} {w : World} {b n : Nat} {D : DataW Value} {l : List (Nat × Value)} (h : w.ownsMap P k asIs b n D) (hD : DMap D l) : w.ownsMap P k asIs b l.length D := by
  have h1 := hD.size
  obtain ⟨es, clock, hb, F, hs, e⟩ := h
  refine ⟨es, clock, hb, F, ?_, e⟩
  rw [← h1, e]
  simp [Maps.size, length_sorted]
section
variable {w w' : World} {B b bm : Nat} {vl : Value} {s : JS}
theorem Jo.but {K : Nat → Prop} (h : Jo w B b bm vl s) (hb : ButOf K w w') (h1 : ¬ K b) (h2 : ¬ K bm) (h3 : ∀ k, vl.ownBlock = some k → ¬ K k) (h4 : ∀ {v : Value} {l : List UInt8}, w.ownsRow B 5 1 v l.length (l.map bv) → ∀ k, v.ownBlock = some k → ¬ K k) : Jo w' B b bm vl s := by
  obtain ⟨D, hv, m1, m2, m3⟩ := h.map
  exact ⟨h.blk.but hb h1, own_but h.row hb h3, ⟨D, hv, ownsMap_but m1 hb h2, m2, m3.but hb h4⟩, h.base, h.bmap, h.next, h.few, h.num, h.lst⟩
theorem Jo.below (h : Jo w B b bm vl s) (hb : Below w.heap.size w w') : Jo w' B b bm vl s :=
  h.but (K := fun _ => False) (ButOf.of_below hb) (fun h => h) (fun h => h) (fun _ _ h => h) (fun _ _ _ h => h)
theorem Jo.ne_own (h : Jo w B b bm vl s) {E size n B' : Nat} {v : Value} {xs : List Value} (ho : w.ownsRow B' E size v n xs) (hE : E ≠ 71) : ∀ k, v.ownBlock = some k → ¬ k = b := fun _ hk he => own_blk_ne ho h.blk hE (he ▸ hk)
/-- a cell of its block is written: the rest stays -/
theorem Jo.keep (h : Jo w B b bm vl s) (o : Nat) (x : Value) : (w.setCell ⟨b, o, none⟩ x).ownsRow B 3 1 vl s.last.length (s.last.map zv) ∧
    ∃ D hv, (w.setCell ⟨b, o, none⟩ x).ownsMap Try.prog 3 asIs bm s.held.length D ∧ DMap D hv ∧ Parts (w.setCell ⟨b, o, none⟩ x) B hv s.held := by
  have hb : ButOf (fun k => k = b) w (w.setCell ⟨b, o, none⟩ x) := (ButOf.refl _ w).set x (Or.inl rfl)
  obtain ⟨D, hv, m1, m2, m3⟩ := h.map
  exact ⟨own_but h.row hb (h.ne_own h.row (by decide)), D, hv, ownsMap_but m1 hb (fun e => ownsMap_blk m1 h.blk e.symm), m2, m3.but hb (fun ho => h.ne_own ho (by decide))⟩
/-- its row has grown, and is stored -/
theorem Jo.setRow (h : Jo w B b bm vl s) {v' : Value} {L : List Int} {m : Nat} (hg : w.grownBy w' vl.ownBlock) (ho : w'.ownsRow B 3 1 v' m (L.map zv)) (hL : ∀ x ∈ L, -1 ≤ x ∧ x < (rgN s.short : Int)) : Jo (w'.setCell ⟨b, 5, none⟩ v') B b bm v' { s with last := L } := by
  have hb : ButOf (fun k => vl.ownBlock = some k) w w' := ButOf.of_grown hg (fun _ e => e)
  have hm : m = L.length := by have := ho.1; simpa using this.symm
  subst hm
  obtain ⟨D, hv, m1, m2, m3⟩ := h.map
  have k1 : Blk w' b _ _ := h.blk.but hb (fun e => h.ne_own h.row (by decide) b e rfl)
  have k2 := ownsMap_but m1 hb (fun e => ownsMap_own m1 h.row e)
  have k3 := m3.but hb (fun hp k hk e => own_own_ne hp h.row (by decide) hk e)
  have hb2 : ButOf (fun k => k = b) w' (w'.setCell ⟨b, 5, none⟩ v') := (ButOf.refl _ w').set v' (Or.inl rfl)
  exact ⟨k1.set 5 v', own_but ho hb2 (fun k hk he => own_blk_ne ho k1 (by decide) (he ▸ hk)), ⟨D, hv, ownsMap_but k2 hb2 (fun e => ownsMap_blk k2 k1 e.symm), m2, k3.but hb2 (fun hp k hk he => own_blk_ne hp k1 (by decide) (he ▸ hk))⟩, h.base, h.bmap, h.next, h.few, h.num, hL⟩
theorem Jo.lt (h : Jo w B b bm vl s) : b < w.heap.size := h.blk.lt
theorem Jo.mlt (h : Jo w B b bm vl s) : bm < w.heap.size := by
  obtain ⟨D, hv, m1, m2, m3⟩ := h.map
  exact m1.lt
end
end Go.Proofs.Ytglmlhbchfgliaa
