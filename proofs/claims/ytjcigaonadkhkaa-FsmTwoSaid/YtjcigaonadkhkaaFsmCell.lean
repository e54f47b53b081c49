/-
  The walks of the reference's table: cell, action, Step.
-/
import Derived.Test.YtjcigaonadkhkaaFsmStep
namespace Go.Proofs.Ytjcigaonadkhkaa
open Go.RowKit
def sv (l : List UInt8) : Value := .string ⟨l.toArray⟩
def rowObj (r : List (List UInt8)) : Obj := .cells (r.map sv).toArray 9
def topObj (w : World) : Obj := .cells ((List.range 16).map fun i => Value.slice (some ⟨w.heap.size + i, 0, none⟩) 10 10).toArray 63
def tabW (w : World) : World := ((fields.map rowObj).foldl World.alloc w).alloc (topObj w)
theorem allocs (os : List Obj) : ∀ w : World, Below w.heap.size w (os.foldl World.alloc w) ∧ (os.foldl World.alloc w).heap.size = w.heap.size + os.length ∧
    ∀ i, i < os.length → (os.foldl World.alloc w).heap[w.heap.size + i]? = os[i]? := by
  induction os with
  | nil => intro w; exact ⟨Below.refl _ _, by simp, by intro i hi; simp at hi⟩
  | cons o os ih =>
    intro w
    obtain ⟨h1, h2, h3⟩ := ih (w.alloc o)
    have hs := alloc_size w o
    refine ⟨?_, ?_, ?_⟩
    · exact (below_alloc (Below.refl w.heap.size w) o (Nat.le_refl _)).trans (h1.mono (by omega))
    · simp only [List.foldl_cons, List.length_cons, h2]; omega
    · intro i hi
      simp only [List.foldl_cons]
      cases i with
      | zero =>
        rw [Nat.add_zero, h1.block w.heap.size (by omega)]
        simpa using heap_alloc_new w o
      | succ i =>
        have h := h3 i (by simpa using hi)
        rw [hs] at h
        rw [show w.heap.size + (i + 1) = w.heap.size + 1 + i by omega, h]
        simp
theorem fields_len : ∀ e, e ≤ 15 → ∃ r, fields[e]? = some r ∧ r.length = 10 := by
  intro e he
  rcases sixteen he with rfl | rfl | rfl | rfl | rfl | rfl | rfl | rfl | rfl | rfl | rfl | rfl | rfl | rfl | rfl | rfl <;> exact ⟨_, rfl, rfl⟩
theorem tab_below (w : World) : Below w.heap.size w (tabW w) := below_alloc (allocs _ w).1 _ (Nat.le_refl _)
theorem tab_top (w : World) (e : Nat) (he : e ≤ 15) : (tabW w).cell? ⟨w.heap.size + 16, e, none⟩ = some (.slice (some ⟨w.heap.size + e, 0, none⟩) 10 10) := by
  have h2 : ((fields.map rowObj).foldl World.alloc w).heap.size = w.heap.size + 16 := (allocs (fields.map rowObj) w).2.1
  have h : Blk (tabW w) (w.heap.size + 16) ((List.range 16).map fun i => Value.slice (some ⟨w.heap.size + i, 0, none⟩) 10 10).toArray 63 := by rw [← h2]; exact Blk.new _ _ _
  rw [h.cell]
  simp [show e < 16 by omega]
theorem tab_cell (w : World) (s e : Nat) (hs : s ≤ 9) (he : e ≤ 15) : (tabW w).cell? ⟨w.heap.size + e, s, none⟩ = some (.string ⟨(field s e).toArray⟩) := by
  obtain ⟨h1, h2, h3⟩ := allocs (fields.map rowObj) w
  obtain ⟨r, hr, hl⟩ := fields_len e he
  have hlen : (fields.map rowObj).length = 16 := rfl
  have h := h3 e (by omega)
  rw [List.getElem?_map, hr, Option.map_some] at h
  have hB : Blk (tabW w) (w.heap.size + e) (r.map sv).toArray 9 := Blk.below h (below_alloc (Below.refl _ _) _ (Nat.le_refl _)) (by omega)
  rw [hB.cell]
  have hf : field s e = r[s]'(by omega) := by
    simp [field, List.getD_eq_getElem?_getD, hr, List.getElem?_eq_getElem (show s < r.length by omega)]
  rw [hf]
  simp [sv, List.getElem?_eq_getElem (show s < r.length by omega)]
set_option maxHeartbeats 8000000 in
theorem cell_any (s e : Nat) (hs : s ≤ 9) (he : e ≤ 15) (w : World) : Calls Try.prog 28 #[.int .i64 s, .int .i64 e] w fun x w' => x = .returned (.string ⟨(field s e).toArray⟩) ∧ Below w.heap.size w w' := by
  have c1 : (tabW w).cell? ⟨w.heap.size + 1 + 1 + 1 + 1 + 1 + 1 + 1 + 1 + 1 + 1 + 1 + 1 + 1 + 1 + 1 + 1, e, none⟩ = some (.slice (some ⟨w.heap.size + e, 0, none⟩) 10 10) := tab_top w e he
  have c2 := tab_cell w s e hs he
  have hb := tab_below w
  generalize field s e = fl at *
  go_enter Try.func28, Try.ntmps28
  refine seq_norm fun G h => ?_
  go_wp2
  refine ⟨rfl, h _ _ ?_⟩
  clear h
  refine seq_norm fun G h => ?_
  go_wp2
  refine ⟨rfl, h _ (tabW w) ?_⟩
  clear h
  generalize tabW w = W at *
  go_wp2
  go_ret
  exact ⟨rfl, hb⟩
end Go.Proofs.Ytjcigaonadkhkaa
