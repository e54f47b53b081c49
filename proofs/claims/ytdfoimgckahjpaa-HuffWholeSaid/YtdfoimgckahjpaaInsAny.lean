/-
  slices.Insert of one node. No conditions.
-/
import Derived.Test.YtdfoimgckahjpaaInsG
namespace Go.Proofs.Ytdfoimgckahjpaa
open Go.RowKit
theorem insN_any {w : World} {B n i vb : Nat} {v : Value} {xs qs : List Value} (h : w.ownsRow B 96 2 v n xs) (hx1 : ∀ u ∈ xs, u.oneCell' = true) (hv : Blk w vb qs.toArray 96) (hq : qs.length = 2) (hq1 : ∀ u ∈ qs, u.oneCell' = true) (hn : n ≤ 1000) (hi : i ≤ n) (hB : B ≤ w.heap.size) (hne : v.ownBlock ≠ some vb) :
    Calls Try.prog 67 #[v, .int .i64 (i : Nat), .slice (some ⟨vb, 0, none⟩) 1 1] w fun e w' => ∃ v', e = .returned v' ∧ w'.ownsRow B 96 2 v' (n + 1) (xs.take (i * 2) ++ qs ++ xs.drop (i * 2)) ∧ Below B w w' := by
  have hl : xs.length = n * 2 := h.1
  by_cases hin : i = n
  · subst hin
    have h1 := insN_end h hv hq hq1 hn hB
    rw [List.take_of_length_le (by omega), List.drop_of_length_le (by omega), List.append_nil]
    exact h1
  · rcases h.2 with ⟨_, h0⟩ | ⟨g, c, cur, rfl, hg, hh, h1, h2, h3, h4⟩
    · omega
    · have hne2 : vb ≠ g := fun e => hne (by rw [e]; rfl)
      unfold maxLen at h2
      by_cases hr : n + 1 ≤ c
      · exact insN_shift hh h3 h4 hx1 hv hq hq1 hn (by omega) hr h2 hg hne2
      · exact insN_grow hh h3 h4 hx1 hv hq hq1 hn (by omega) (by omega) h1 hB
end Go.Proofs.Ytdfoimgckahjpaa
