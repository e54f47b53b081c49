/-
  The walk of the law's ints: are two rows of numbers one?
-/
import Derived.Test.YtjcigaonadkhkaaFsmRef
namespace Go.Proofs.Ytjcigaonadkhkaa
open Go.RowKit
theorem Nums.cell {w : World} {B : Nat} {a : Option Addr} {c : Nat} {l : List Nat} (h : Nums w B (.slice a l.length c) l) {j : Nat} (hj : j < l.length) :
    ∃ r, a = some ⟨r, 0, none⟩ ∧ w.cell? ⟨r, j, none⟩ = some (.int .i64 (l[j] : Nat)) := by
  obtain ⟨r, rfl⟩ := own_nonnil h (by omega)
  have h2 := World.ownsRow.cellAt h j (by omega)
  exact ⟨r, rfl, h2.trans (by simp [iv, hj])⟩
theorem Nums.drewN {w : World} {B : Nat} {v : Value} {l : List Nat} (h : Nums w B v l) (m : Nat) : Nums (w.drewN m) B v l := h.below (below_drewN (Below.refl _ _) m)
theorem Nums.max {w : World} {B : Nat} {v : Value} {l : List Nat} (h : Nums w B v l) : l.length ≤ 9223372036854775807 := by
  rcases h.2 with ⟨_, h0⟩ | ⟨g, cap, cur, _, _, _, h1, h2, _⟩
  · omega
  · unfold maxLen at h2; omega
theorem eq_upto {l k : List Nat} {j : Nat} (hl : l.length = k.length) (hj : j = l.length) (h : ∀ t, t < j → l[t]? = k[t]?) : l = k := by
  apply List.ext_getElem? 
  intro t
  by_cases ht : t < j
  · exact h t ht
  · rw [List.getElem?_eq_none (by omega), List.getElem?_eq_none (by omega)]
set_option maxHeartbeats 1000000 in
theorem ints_any {w : World} {a b : Option Addr} {c d B B' : Nat} {l k : List Nat} (h1 : Nums w B (.slice a l.length c) l) (h2 : Nums w B' (.slice b k.length d) k) :
    Calls Try.prog 16 #[.slice a l.length c, .slice b k.length d] w fun e w' => e = .returned (.bool (decide (l = k))) ∧ ∃ m, w' = w.drewN m := by
  have hmx := h1.max
  by_cases hl : l.length = k.length
  · go_enter Try.func16, Try.ntmps16
    go_wp2
    go_loopw [5] (fun i wr => ∃ j m : Nat, j ≤ l.length ∧ i = .int .i64 j ∧ wr = w.drewN m ∧ ∀ t, t < j → l[t]? = k[t]?) (fun i _ => l.length - (intOf i).toNat)
    case atStart => exact ⟨0, 0, by omega, rfl, rfl, by omega⟩
    case round =>
      obtain ⟨j, m, hj, rfl, rfl, he⟩ := hrel
      by_cases hlt : j < l.length
      · obtain ⟨r, rfl, g1⟩ := h1.cell hlt
        obtain ⟨q, rfl, g2⟩ := h2.cell (show j < k.length by omega)
        have e1 : l[j]? = some l[j] := List.getElem?_eq_getElem hlt
        have e2 : k[j]? = some k[j] := List.getElem?_eq_getElem (by omega)
        generalize l[j] = X at *
        generalize k[j] = Y at *
        have hk : j < k.length := by omega
        by_cases hxy : X = Y
        · subst hxy
          go_wp2
          go_quiet (fail)
          go_wp2
          go_roundw
          case rel =>
            refine ⟨j + 1, m + nq, by omega, by go_num, rfl, fun t ht => ?_⟩
            by_cases h : t = j
            · rw [h, e1, e2]
            · exact he t (by omega)
          case measure => simp [intOf]; omega
        · have hne : ¬ l = k := fun h => hxy (by rw [h, e2] at e1; cases e1; rfl)
          have hxy' : ¬ ((X : Int) = (Y : Int)) := by omega
          go_wp2
          go_quiet (fail)
          go_wp2
          go_ret
          exact ⟨ret_bool (by simp [hne]), m + nq, World.drewN_drewN _ _ _⟩
      · have heq := eq_upto hl (show j = l.length by omega) he
        go_wp2
        go_ret
        exact ⟨ret_bool (by simp [heq]), m, rfl⟩
  · go_enter Try.func16, Try.ntmps16
    go_wp2
    go_ret
    exact ⟨ret_bool (by symm; simp; intro h; exact hl (by rw [h])), 0, rfl⟩
end Go.Proofs.Ytjcigaonadkhkaa
