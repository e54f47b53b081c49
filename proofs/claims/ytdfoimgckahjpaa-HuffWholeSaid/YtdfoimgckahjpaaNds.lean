/-
  Rows of nodes: what their cells are. No conditions.
-/
import Derived.Test.YtdfoimgckahjpaaInsAny
import Derived.Test.YtdfoimgckahjpaaHuffNode
namespace Go.Proofs.Ytdfoimgckahjpaa
open Go.RowKit
/-- the cells xs are the nodes ns; each node's symbols are a row of their own above B -/
def Nds (w : World) (B : Nat) : List Value → List Nd → Prop
  | [], [] => True
  | c :: v :: xs, n :: ns => c = .int .i64 (n.1 : Nat) ∧ Nums w B v n.2 ∧ Nds w B xs ns
  | _, _ => False
theorem Nds.two {w : World} {B : Nat} : ∀ {xs : List Value} {n : Nd} {ns : List Nd}, Nds w B xs (n :: ns) → ∃ v ys, xs = .int .i64 (n.1 : Nat) :: v :: ys ∧ Nums w B v n.2 ∧ Nds w B ys ns
  | [], _, _, h => h.elim
  | [_], _, _, h => h.elim
  | _ :: v :: ys, _, _, h => by
    obtain ⟨rfl, h1, h2⟩ := h
    exact ⟨v, ys, rfl, h1, h2⟩
theorem Nds.none_ {w : World} {B : Nat} : ∀ {xs : List Value}, Nds w B xs [] → xs = []
  | [], _ => rfl
  | [_], h => h.elim
  | _ :: _ :: _, h => h.elim
theorem Nds.len {w : World} {B : Nat} : ∀ {ns : List Nd} {xs : List Value}, Nds w B xs ns → xs.length = ns.length * 2
  | [], _, h => by rw [h.none_]; rfl
  | n :: ns, _, h => by
    obtain ⟨v, ys, rfl, _, h2⟩ := h.two
    rw [List.length_cons, List.length_cons, Nds.len h2, List.length_cons]; omega
theorem Nums.one {w : World} {B : Nat} {v : Value} {S : List Nat} (h : Nums w B v S) : v.oneCell' = true := by
  obtain ⟨a, c, rfl⟩ := h.form
  rfl
theorem Nds.one {w : World} {B : Nat} : ∀ {ns : List Nd} {xs : List Value}, Nds w B xs ns → ∀ u, u ∈ xs → u.oneCell' = true
  | [], _, h, u, hu => by rw [h.none_] at hu; cases hu
  | n :: ns, _, h, u, hu => by
    obtain ⟨v, ys, rfl, h1, h2⟩ := h.two
    rcases List.mem_cons.1 hu with rfl | hu
    · rfl
    · rcases List.mem_cons.1 hu with rfl | hu
      · exact h1.one
      · exact Nds.one h2 u hu
theorem Nds.map {w w' : World} {B B' : Nat} (f : ∀ v S, Nums w B v S → Nums w' B' v S) : ∀ {ns : List Nd} {xs : List Value}, Nds w B xs ns → Nds w' B' xs ns
  | [], _, h => by rw [h.none_]; trivial
  | n :: ns, _, h => by
    obtain ⟨v, ys, rfl, h1, h2⟩ := h.two
    exact ⟨rfl, f _ _ h1, Nds.map f h2⟩
theorem Nds.below {w w' : World} {B : Nat} {ns : List Nd} {xs : List Value} (h : Nds w B xs ns) (hb : Below w.heap.size w w') : Nds w' B xs ns := h.map fun _ _ k => k.below hb
theorem Nds.but {w w' : World} {B g : Nat} {ns : List Nd} {xs : List Value} (h : Nds w B xs ns) (hb : ButOf (fun x => x = g) w w') (hg : g < B) : Nds w' B xs ns := h.map fun _ _ k => k.but hb fun b hb2 e => by
  have := (World.ownsRow.lt k _ hb2).1
  omega
theorem Nds.mono {w : World} {B B' : Nat} {ns : List Nd} {xs : List Value} (h : Nds w B xs ns) (hb : B' ≤ B) : Nds w B' xs ns := h.map fun _ _ k => k.mono hb
theorem Nds.append {w : World} {B : Nat} : ∀ {ns ms : List Nd} {xs ys : List Value}, Nds w B xs ns → Nds w B ys ms → Nds w B (xs ++ ys) (ns ++ ms)
  | [], _, _, _, h, k => by rw [h.none_]; exact k
  | n :: ns, _, _, _, h, k => by
    obtain ⟨v, zs, rfl, h1, h2⟩ := h.two
    exact ⟨rfl, h1, Nds.append h2 k⟩
theorem Nds.take {w : World} {B : Nat} : ∀ {ns : List Nd} {xs : List Value} (i : Nat), Nds w B xs ns → Nds w B (xs.take (i * 2)) (ns.take i)
  | _, _, 0, _ => by rw [Nat.zero_mul, List.take_zero, List.take_zero]; trivial
  | [], _, i + 1, h => by rw [h.none_, List.take_nil, List.take_nil]; trivial
  | n :: ns, _, i + 1, h => by
    obtain ⟨v, zs, rfl, h1, h2⟩ := h.two
    rw [show (i + 1) * 2 = i * 2 + 1 + 1 by omega, List.take_succ_cons, List.take_succ_cons, List.take_succ_cons]
    exact ⟨rfl, h1, Nds.take i h2⟩
theorem Nds.drop {w : World} {B : Nat} : ∀ {ns : List Nd} {xs : List Value} (i : Nat), Nds w B xs ns → Nds w B (xs.drop (i * 2)) (ns.drop i)
  | _, _, 0, h => by rw [Nat.zero_mul, List.drop_zero, List.drop_zero]; exact h
  | [], _, i + 1, h => by rw [h.none_, List.drop_nil, List.drop_nil]; trivial
  | n :: ns, _, i + 1, h => by
    obtain ⟨v, zs, rfl, h1, h2⟩ := h.two
    rw [show (i + 1) * 2 = i * 2 + 1 + 1 by omega, List.drop_succ_cons, List.drop_succ_cons, List.drop_succ_cons]
    exact Nds.drop i h2
/-- a node's count -/
def ndc (ns : List Nd) (i : Nat) : Nat := (ns.getD i (0, [])).1
theorem Nds.count {w : World} {B : Nat} : ∀ {ns : List Nd} {xs : List Value} {i : Nat}, Nds w B xs ns → i < ns.length → xs[i * 2]? = some (.int .i64 (ndc ns i : Nat))
  | [], _, _, _, h => by cases h
  | n :: ns, _, 0, h, _ => by
    obtain ⟨v, zs, rfl, h1, h2⟩ := h.two
    rfl
  | n :: ns, _, i + 1, h, hi => by
    obtain ⟨v, zs, rfl, h1, h2⟩ := h.two
    have := Nds.count (i := i) h2 (by simpa using hi)
    rw [show (i + 1) * 2 = i * 2 + 1 + 1 by omega, List.getElem?_cons_succ, List.getElem?_cons_succ, this]
    rfl
theorem ndc_mem {ns : List Nd} {i : Nat} (hi : i < ns.length) : ∃ n, n ∈ ns ∧ ndc ns i = n.1 := by
  refine ⟨ns[i], List.getElem_mem hi, ?_⟩
  unfold ndc
  rw [List.getD_eq_getElem?_getD, List.getElem?_eq_getElem hi]; rfl
/-- where a node goes -/
theorem insN_at {x : Nd} : ∀ {r : List Nd} {i : Nat}, i ≤ r.length → (∀ j, j < i → ndc r j ≤ x.1) → (i = r.length ∨ x.1 < ndc r i) → insN x r = r.take i ++ x :: r.drop i
  | [], i, hi, _, _ => by
    obtain rfl : i = 0 := by simpa using hi
    rfl
  | y :: r, 0, _, _, h2 => by
    rcases h2 with h2 | h2
    · cases h2
    · unfold insN
      have h3 : x.1 < y.1 := h2
      rw [if_neg (by omega)]; rfl
  | y :: r, i + 1, hi, h1, h2 => by
    have h3 : y.1 ≤ x.1 := h1 0 (by omega)
    unfold insN
    rw [if_pos h3, List.take_succ_cons, List.drop_succ_cons, List.cons_append]
    congr 1
    refine insN_at (by simpa using hi) (fun j hj => h1 (j + 1) (by omega)) ?_
    rcases h2 with h2 | h2
    · exact .inl (by simpa using h2)
    · exact .inr h2
theorem bump_append : ∀ (A B O : List Nat), bump O (A ++ B) = bump (bump O A) B
  | [], _, _ => rfl
  | x :: A, B, O => by rw [List.cons_append, bump, bump, bump_append A B]
theorem Cs.of_own {w : World} {B n c : Nat} {a : Option Addr} {xs : List Value} (h : w.ownsRow B 96 2 (.slice a n c) n xs) (h1 : ∀ u, u ∈ xs → u.oneCell' = true) : Cs w a n c xs := by
  have hl := h.1
  rcases h.2 with ⟨e, h0⟩ | ⟨g, cap, cur, e, _, hg, hn, hm, hs, ht⟩
  · cases e; exact ⟨hl, Nat.le_refl _, by omega, fun _ => rfl, h1, fun j v hj => by have := (List.getElem?_eq_some_iff.1 hj).1; omega⟩
  · cases e
    unfold maxLen at hm
    refine ⟨hl, hn, hm, fun e => (by cases e), h1, fun j v hj => ⟨g, 0, rfl, ?_⟩⟩
    rw [Nat.zero_add, Blk.cell (show Blk w g cur 96 from hg)]
    rw [← ht, List.getElem?_take] at hj
    split at hj
    · simpa using hj
    · cases hj
theorem Cs.drop {w : World} {n c : Nat} {a : Option Addr} {xs : List Value} (h : Cs w a n c xs) (h2 : 2 ≤ n) : Cs w (if c = 2 then a else a.map (·.add 4)) (n - 2) (c - 2) (xs.drop 4) := by
  have hl := h.len
  have hc := h.cap
  have hm := h.most
  refine ⟨by rw [List.length_drop]; omega, by omega, by omega, fun e => ?_, fun u hu => h.one u (List.mem_of_mem_drop hu), fun j v hj => ?_⟩
  · split at e
    · omega
    · cases a with
      | none => have := h.nil rfl; omega
      | some x => cases e
  · rw [List.getElem?_drop] at hj
    obtain ⟨b, o, rfl, h3⟩ := h.cell _ _ hj
    have hj2 := (List.getElem?_eq_some_iff.1 hj).1
    rw [if_neg (by omega)]
    exact ⟨b, o + 4, rfl, by rw [Nat.add_assoc]; exact h3⟩
end Go.Proofs.Ytdfoimgckahjpaa
