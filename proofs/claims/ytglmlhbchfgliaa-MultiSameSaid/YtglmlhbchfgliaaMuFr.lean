/-
  A list of rows of bytes that calls made: each an own row. No conditions.
-/
import Derived.Test.YtglmlhbchfgliaaLib
import Derived.Test.YtglmlhbchfgliaaFrame
import Derived.Test.YtglmlhbchfgliaaSame
namespace Go.Proofs.Ytglmlhbchfgliaa
open Go.RowKit
/-- the values xs are own rows of the bytes L -/
def Each (w : World) (B : Nat) : List Value → List (List UInt8) → Prop
  | [], [] => True
  | x :: xs, l :: L => w.ownsRow B 5 1 x l.length (l.map bv) ∧ Each w B xs L
  | _, _ => False
section
variable {w w' : World} {B : Nat}
theorem Each.length : ∀ {xs : List Value} {L : List (List UInt8)}, Each w B xs L → xs.length = L.length
  | [], [], _ => rfl
  | _ :: _, _ :: _, h => by simp [Each.length h.2]
  | [], _ :: _, h => h.elim
  | _ :: _, [], h => h.elim
theorem Each.snoc : ∀ {xs : List Value} {L : List (List UInt8)} {x : Value} {l : List UInt8}, Each w B xs L → w.ownsRow B 5 1 x l.length (l.map bv) → Each w B (xs ++ [x]) (L ++ [l])
  | [], [], _, _, _, h => ⟨h, trivial⟩
  | _ :: _, _ :: _, _, _, h, k => ⟨h.1, Each.snoc h.2 k⟩
  | [], _ :: _, _, _, h, _ => h.elim
  | _ :: _, [], _, _, h, _ => h.elim
theorem Each.but {K : Nat → Prop} : ∀ {xs : List Value} {L : List (List UInt8)}, Each w B xs L → ButOf K w w' → (∀ x ∈ xs, ∀ k, x.ownBlock = some k → ¬ K k) → Each w' B xs L
  | [], [], _, _, _ => trivial
  | _ :: _, _ :: _, h, hb, hn => ⟨own_but h.1 hb (hn _ List.mem_cons_self), Each.but h.2 hb (fun x hx => hn x (List.mem_cons_of_mem _ hx))⟩
  | [], _ :: _, h, _, _ => h.elim
  | _ :: _, [], h, _, _ => h.elim
theorem Each.mono {B' : Nat} (hB : B' ≤ B) : ∀ {xs : List Value} {L : List (List UInt8)}, Each w B xs L → Each w B' xs L
  | [], [], _ => trivial
  | _ :: _, _ :: _, h => ⟨own_mono h.1 hB, Each.mono hB h.2⟩
  | [], _ :: _, h => h.elim
  | _ :: _, [], h => h.elim
theorem Each.mem : ∀ {xs : List Value} {L : List (List UInt8)}, Each w B xs L → ∀ x ∈ xs, ∃ l : List UInt8, w.ownsRow B 5 1 x l.length (l.map bv)
  | [], [], _, _, hx => (by cases hx)
  | _ :: _, l :: _, h, x, hx => by
    rcases List.mem_cons.1 hx with e | e
    · subst e; exact ⟨l, h.1⟩
    · exact Each.mem h.2 x e
  | [], _ :: _, h, _, _ => h.elim
  | _ :: _, [], h, _, _ => h.elim
theorem Each.get : ∀ {xs : List Value} {L : List (List UInt8)}, Each w B xs L → ∀ {i : Nat}, i < L.length → ∃ x, xs[i]? = some x ∧ w.ownsRow B 5 1 x (L.getD i []).length ((L.getD i []).map bv)
  | _ :: _, _ :: _, h, 0, _ => ⟨_, rfl, h.1⟩
  | _ :: _, _ :: L, h, i + 1, hi => by
    obtain ⟨x, h1, h2⟩ := Each.get h.2 (i := i) (by simpa using hi)
    exact ⟨x, by simpa using h1, h2⟩
  | [], _ :: _, h, _, _ => h.elim
  | _ :: _, [], h, _, _ => h.elim
  | [], [], _, _, hi => by simp at hi
/-- two owned rows of different kinds lie in different blocks -/
theorem own_own_ne {E E' size size' n n' B' : Nat} {v v' : Value} {xs xs' : List Value} (h : w.ownsRow B E size v n xs) (h' : w.ownsRow B' E' size' v' n' xs') (hE : E ≠ E') {k : Nat} (hk : v.ownBlock = some k) : v'.ownBlock ≠ some k := by
  intro hk'
  rcases h.2 with ⟨rfl, _⟩ | ⟨g, cap, cur, rfl, _, hh, _⟩
  · simp [Value.ownBlock] at hk
  rcases h'.2 with ⟨rfl, _⟩ | ⟨g', cap', cur', rfl, _, hh', _⟩
  · simp [Value.ownBlock] at hk'
  simp only [Value.ownBlock, Option.some.injEq] at hk hk'
  subst hk; subst hk'
  rw [hh] at hh'
  injection hh' with e
  injection e with _ e2
  exact hE e2
end
/-- a slice of own rows of bytes -/
structure Fr (w : World) (B : Nat) (v : Value) (L : List (List UInt8)) : Prop where
  ex : ∃ xs, w.ownsRow B 27 1 v L.length xs ∧ Each w B xs L
section
variable {w w' : World} {B : Nat} {v : Value} {L : List (List UInt8)}
theorem Fr.nil (w : World) (B : Nat) : Fr w B (.slice none 0 0) [] := ⟨[], World.ownsRow_nil _ _ _ _, trivial⟩
theorem Fr.below (h : Fr w B v L) (hb : Below w.heap.size w w') : Fr w' B v L := by
  obtain ⟨xs, h1, h2⟩ := h.ex
  exact ⟨xs, own_below h1 hb, h2.but (K := fun _ => False) (ButOf.of_below hb) (fun _ _ _ _ h => h)⟩
theorem Fr.mono {B' : Nat} (h : Fr w B v L) (hB : B' ≤ B) : Fr w B' v L := by
  obtain ⟨xs, h1, h2⟩ := h.ex
  exact ⟨xs, own_mono h1 hB, h2.mono hB⟩
/-- one more row, where the slice has grown -/
theorem Fr.snoc {xs : List Value} {v' q : Value} {l : List UInt8} (h1 : w.ownsRow B 27 1 v L.length xs) (h2 : Each w B xs L) (hq : w.ownsRow B 5 1 q l.length (l.map bv))
    (ho : w'.ownsRow B 27 1 v' (L.length + 1) (xs ++ [q])) (hg : w.grownBy w' v.ownBlock) : Fr w' B v' (L ++ [l]) := by
  have hb : ButOf (fun k => v.ownBlock = some k) w w' := ButOf.of_grown hg (fun _ h => h)
  have hne : ∀ {x : Value} {l : List UInt8}, w.ownsRow B 5 1 x l.length (l.map bv) → ∀ k, x.ownBlock = some k → ¬ v.ownBlock = some k := fun hx k hk => own_own_ne hx h1 (by decide) hk
  refine ⟨xs ++ [q], own_congr ho (by simp) rfl, (h2.but hb (fun x hx k hk => ?_)).snoc (own_but hq hb (fun k hk => hne hq k hk))⟩
  obtain ⟨l', hl'⟩ := h2.mem x hx
  exact hne hl' k hk
end
set_option maxRecDepth 100000 in
theorem info_rows : (Try.prog.info? 27).map (fun i => (i.zero, i.size, i.bytes)) = some (some (.slice none 0 0), 1, 24) := by kernel_rfl
/-- a value of an own row is a slice -/
theorem own_slice {w : World} {B E n : Nat} {v : Value} {xs : List Value} (h : w.ownsRow B E 1 v n xs) : ∃ a c, v = .slice a n c := by
  rcases h.2 with ⟨rfl, rfl⟩ | ⟨g, cap, cur, rfl, _⟩
  · exact ⟨none, 0, rfl⟩
  · exact ⟨_, cap, rfl⟩
end Go.Proofs.Ytglmlhbchfgliaa
