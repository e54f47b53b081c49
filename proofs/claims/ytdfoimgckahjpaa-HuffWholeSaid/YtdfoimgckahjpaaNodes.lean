/-
  Rows of nodes (two cells each): slices.Clone. No conditions.
-/
import Derived.Test.YtdfoimgckahjpaaConcat
namespace Go.Proofs.Ytdfoimgckahjpaa
open Go.RowKit
/-- the slice (a, n, c) of elements of two cells reads as the cells xs -/
structure Cs (w : World) (a : Option Addr) (n c : Nat) (xs : List Value) : Prop where
  len : xs.length = n * 2
  cap : n ≤ c
  most : c ≤ 9223372036854775807
  nil : a = none → c = 0
  one : ∀ u, u ∈ xs → u.oneCell' = true
  cell : ∀ j v, xs[j]? = some v → ∃ b o, a = some ⟨b, o, none⟩ ∧ w.cell? ⟨b, o + j, none⟩ = some v
section
variable {w w' : World} {a : Option Addr} {n c : Nat} {xs : List Value}
theorem Cs.below (h : Cs w a n c xs) {B : Nat} (hb : Below B w w') (hB : w.heap.size ≤ B) : Cs w' a n c xs := by
  refine ⟨h.len, h.cap, h.most, h.nil, h.one, fun j v hj => ?_⟩
  obtain ⟨b, o, rfl, h2⟩ := h.cell j v hj
  exact ⟨b, o, rfl, by rw [hb.cell (p := ⟨b, o + j, none⟩) (Nat.lt_of_lt_of_le (World.block_lt_of_cell? _ _ h2) hB)]; exact h2⟩
end
set_option maxRecDepth 100000 in
theorem info_node : (Try.prog.info? 96).map (fun i => (i.zero, i.size, i.bytes)) = some (some (.agg #[.int .i64 0, .slice none 0 0]), 2, 32) := by kernel_rfl
theorem eq_nil_node (a : Option Addr) (n c : Nat) (w : World) : Sem.run Try.prog (binOp BinOp.eql 94 (.slice a n c) (.slice none 0 0)) w = .ok (.bool a.isNone) w := by cases a <;> kernel_rfl
set_option maxRecDepth 100000 in
set_option maxHeartbeats 1000000 in
theorem cloneN_any {w : World} {a : Option Addr} {n c : Nat} {xs : List Value} (h : Cs w a n c xs) (hn : n ≤ 100000) :
    Calls Try.prog 68 #[.slice a n c] w fun e w' => ∃ v, e = .returned v ∧ w'.ownsRow w.heap.size 96 2 v n xs ∧ Below w.heap.size w w' := by
  have hl := h.len
  have hc := h.cap
  obtain ⟨i0, hi, hz0, hz1, hz2⟩ := info_parts info_node
  have hi' := Lib.hid hi; clear hi
  have hq := eq_nil_node a n c
  cases a with
  | none =>
    have h0 := h.nil rfl
    obtain rfl : n = 0 := by omega
    subst h0
    obtain rfl : xs = [] := List.eq_nil_of_length_eq_zero (by omega)
    go_enter Try.func68, Try.ntmps68
    go_wp2_with fail
    go_ret
    exact ⟨_, rfl, World.ownsRow_nil _ _ _ _, Below.refl _ _⟩
  | some x =>
    go_enter Try.func68, Try.ntmps68
    have hown : (w.alloc (.cells #[] 96)).ownsRow w.heap.size 96 2 (.slice (some ⟨w.heap.size, 0, none⟩) 0 0) 0 [] :=
      ⟨rfl, .inr ⟨w.heap.size, 0, #[], rfl, Nat.le_refl _, Blk.new w #[] 96, Nat.le_refl _, by decide, rfl, rfl⟩⟩
    have hB := h.below (below_alloc (Below.refl w.heap.size w) (.cells #[] 96) (Nat.le_refl _)) (Nat.le_refl _)
    have hs := alloc_size w (.cells #[] 96)
    go_wp2_with (at_builtin; go_must (refine wpList_append_own_at _ rfl _ _ 94 rfl w.heap.size 96 i0 _ 2 32 Try.underlying94 hi'.out hz0 hz1 hz2 rfl (by decide) _ 0 [] rfl hown x n c xs rfl hl ?c1 h.one ?c3 ?c4 (by omega) ?_))
    case c1 =>
      intro j u hj
      obtain ⟨b, o, e, g⟩ := hB.cell j u hj
      cases e
      rw [show (⟨b, o, none⟩ : Addr).add j = ⟨b, o + j, none⟩ by unfold Addr.add; split <;> simp_all]
      exact g
    case c3 => unfold maxLen; omega
    case c4 => omega
    intro v1 w1 ho hg _ _
    have hb := below_grown (below_alloc (Below.refl w.heap.size w) (.cells #[] 96) (Nat.le_refl _)) hown hg (by omega)
    go_wp2_with fail
    go_ret
    exact ⟨_, rfl, own_congr ho (by omega) (by simp), hb⟩
end Go.Proofs.Ytdfoimgckahjpaa
