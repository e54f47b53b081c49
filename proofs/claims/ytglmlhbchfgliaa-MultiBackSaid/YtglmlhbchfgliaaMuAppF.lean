/-
  Rows of bytes are appended to rows of bytes. No conditions.
-/
import Derived.Test.YtglmlhbchfgliaaMuFr
import Derived.Lib.Hide
namespace Go.Proofs.Ytglmlhbchfgliaa
open Go.RowKit
theorem Each.append {w : World} {B : Nat} : ∀ {xs ys : List Value} {L M : List (List UInt8)}, Each w B xs L → Each w B ys M → Each w B (xs ++ ys) (L ++ M)
  | [], _, [], _, _, k => k
  | _ :: _, _, _ :: _, _, h, k => ⟨h.1, Each.append h.2 k⟩
  | [], _, _ :: _, _, h, _ => h.elim
  | _ :: _, _, [], _, h, _ => h.elim
theorem Each.slices {w : World} {B : Nat} : ∀ {xs : List Value} {L : List (List UInt8)}, Each w B xs L → ∀ u ∈ xs, u.oneCell' = true
  | [], [], _, u, hu => by cases hu
  | x :: xs, l :: L, h, u, hu => by
    rcases List.mem_cons.1 hu with e | e
    · obtain ⟨a, c, h1⟩ := own_slice h.1
      rw [e, h1]; rfl
    · exact Each.slices h.2 u e
  | [], _ :: _, h, _, _ => h.elim
  | _ :: _, [], h, _, _ => h.elim
theorem fr_grown {w w' : World} {B : Nat} {v v' : Value} {xs ys : List Value} {L M : List (List UInt8)} (h1 : w.ownsRow B 27 1 v L.length xs) (h2 : Each w B xs L) (h3 : Each w B ys M) (ho : w'.ownsRow B 27 1 v' (L.length + M.length) (xs ++ ys)) (hg : w.grownBy w' v.ownBlock) : Fr w' B v' (L ++ M) := by
  have hb : ButOf (fun k => v.ownBlock = some k) w w' := ButOf.of_grown hg (fun _ h => h)
  have hne : ∀ {x : Value} {l : List UInt8}, w.ownsRow B 5 1 x l.length (l.map bv) → ∀ k, x.ownBlock = some k → ¬ v.ownBlock = some k := fun hx k hk => own_own_ne hx h1 (by decide) hk
  refine ⟨xs ++ ys, own_congr ho (by simp) rfl, (h2.append h3).but hb (fun x hx k hk => ?_)⟩
  obtain ⟨l', hl'⟩ := (h2.append h3).mem x hx
  exact hne hl' k hk
/-- append(L, M...) -/
theorem wp_appF {w : World} {ops : Array Oper} {rest : List Oper} {o : Oper} {a : Act} {Q : Exit → Act → World → Prop} (hgd : o.guard = none) (s x : Operand)
    (ho : o.op = .call { callee := .builtin .append, args := #[s, x], argTypes := #[23, 23] }) {B : Nat} {v v2 : Value} {L M : List (List UInt8)} (hs : a.eval s = v) (hL : Fr w B v L) (hx : a.eval x = v2) (hM : Fr w B v2 M)
    (hn : L.length + M.length ≤ 100000) (hB : B ≤ w.heap.size) (h : ∀ v' w', Fr w' B v' (L ++ M) → w.grownBy w' v.ownBlock → Below B w w' → wpList Try.prog ops Q rest (a.put o.dst v') w') : wpList Try.prog ops Q (o :: rest) a w := by
  obtain ⟨i0, hi, hz0, hz1, hz2⟩ := info_parts info_rows
  obtain ⟨xs, h1, h2⟩ := hL.ex
  obtain ⟨ys, h3, h4⟩ := hM.ex
  have hl := h4.length
  have hx3 := h3
  rcases h3.2 with ⟨rfl, h0⟩ | ⟨g, cap, cur, rfl, _, hg, hnc, hm, _⟩
  · obtain rfl : M = [] := List.eq_nil_of_length_eq_zero h0
    refine wpList_append_own_none hgd s x 23 ho B 27 i0 1 Try.underlying23 hi v L.length xs hs h1 hx (h _ _ (by simpa using hL) ⟨rfl, rfl, rfl, Nat.le_refl _, fun _ _ _ => rfl⟩ (Below.refl _ _))
  · refine wpList_append_own_at _ hgd s x 23 ho B 27 i0 _ 1 24 Try.underlying23 hi hz0 hz1 hz2 rfl (by decide) v L.length xs hs h1 ⟨g, 0, none⟩ M.length cap ys hx (by omega) ?_ h4.slices (by unfold maxLen; omega) (by omega) hB ?_
    · intro j u hj
      have hjl : j < ys.length := (List.getElem?_eq_some_iff.1 hj).1
      have := World.ownsRow.cellAt hx3 j (by omega)
      rw [show (⟨g, 0, none⟩ : Addr).add j = ⟨g, j, none⟩ by unfold Addr.add; split <;> simp_all, this]
      exact hj
    · intro v' w' ho' hg' _ _
      exact h v' w' (fr_grown h1 h2 h4 ho' hg') hg' (below_grown (Below.refl B w) h1 hg' hB)
end Go.Proofs.Ytglmlhbchfgliaa
