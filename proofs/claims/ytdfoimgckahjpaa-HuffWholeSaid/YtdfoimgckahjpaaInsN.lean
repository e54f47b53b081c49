/-
  slices.Insert of one node. No conditions.
-/
import Derived.Test.YtdfoimgckahjpaaNodes
import Derived.Shelf.Spec.SlicesInsert
namespace Go.Proofs.Ytdfoimgckahjpaa
open Go.RowKit
theorem run_copy2 {P : Program} (w : World) (dT sT ty elem : TypeId) (b o dLen dCap : Nat) (a : Addr) (sLen sCap : Nat) (cs : List Value)
    (hu : P.underlying dT = some (.slice elem)) (hs : (P.info? elem).map (·.size) = some 2) (hn : cs.length = Nat.min sLen dLen * 2)
    (hsrc : ∀ j v, cs[j]? = some v → w.cell? (a.add j) = some v) (hc : ∀ j, j < cs.length → (w.cell? ⟨b, o + j, none⟩).isSome = true) (hf : ∀ j, j < cs.length → w.frozen? ⟨b, o + j, none⟩ = false) (h1 : ∀ v ∈ cs, v.oneCell' = true) :
    (Builtin.copy_ #[dT, sT] ty #[.slice (some ⟨b, o, none⟩) dLen dCap, .slice (some a) sLen sCap]).run P w = .ok (goInt (Nat.min sLen dLen)) (w.setCells b o cs) := by
  have hl := run_loadCells_list (P := P) w a cs hsrc
  have hst := run_storeCells_cells (P := P) b o cs 0 w (by simpa using hc) (by simpa using hf) h1
  cases hq : P.info? elem with
  | none => simp [hq] at hs
  | some i =>
    have hi : i.size = 2 := by simpa [hq] using hs
    simp [Builtin.copy_, run_underlying hu, Builtin.lenOf, Builtin.firstCells, sizeOf, typeInfo, hq, hi, ← hn, hl, hst]
set_option maxRecDepth 100000 in
set_option maxHeartbeats 1000000 in
/-- at the end -/
theorem insN_end {w : World} {B n vb : Nat} {v : Value} {xs qs : List Value} (h : w.ownsRow B 96 2 v n xs) (hv : Blk w vb qs.toArray 96) (hq : qs.length = 2) (hq1 : ∀ u ∈ qs, u.oneCell' = true) (hn : n ≤ 1000) (hB : B ≤ w.heap.size) :
    Calls Try.prog 67 #[v, .int .i64 (n : Nat), .slice (some ⟨vb, 0, none⟩) 1 1] w fun e w' => ∃ v', e = .returned v' ∧ w'.ownsRow B 96 2 v' (n + 1) (xs ++ qs) ∧ Below B w w' := by
  obtain ⟨i0, hi, hz0, hz1, hz2⟩ := info_parts info_node
  have hi' := Lib.hid hi; clear hi
  have hnI : (n : Int) ≤ 1000 := by omega
  have hcell : ∀ j u, qs[j]? = some u → w.cell? ((⟨vb, 0, none⟩ : Addr).add j) = some u := fun j u hj => by
    rw [show (⟨vb, 0, none⟩ : Addr).add j = ⟨vb, 0 + j, none⟩ by unfold Addr.add; split <;> simp_all, hv.cell, Nat.zero_add]
    simpa using hj
  have hcell := Lib.hid hcell
  obtain ⟨a, c, rfl⟩ : ∃ a c, v = .slice a n c := by
    rcases h.2 with ⟨e, h0⟩ | ⟨g, cap, cur, e, _⟩
    · exact ⟨none, 0, by rw [e, h0]⟩
    · exact ⟨_, cap, e⟩
  have hcap : n ≤ c ∧ c ≤ 9223372036854775807 := by
    rcases h.2 with ⟨e, h0⟩ | ⟨g, cap, cur, e, _, _, h1, h2, _⟩
    · cases e; omega
    · cases e; unfold maxLen at h2; exact ⟨h1, h2⟩
  obtain ⟨hc1, hc2⟩ := hcap
  have hc1I : (n : Int) ≤ (c : Int) := by omega
  have hown := h
  clear h
  by_cases hcn : c = n
  · subst hcn
    go_enter Try.func67, Try.ntmps67
    go_wp2_with (at_builtin; go_must (refine wpList_append_own_at _ rfl _ _ 94 rfl B 96 i0 _ 2 32 Try.underlying94 hi'.out hz0 hz1 hz2 rfl (by decide) _ _ xs rfl hown ⟨vb, 0, none⟩ 1 1 qs rfl ?c0 hcell.out hq1 ?c3 ?c4 hB ?_))
    case c0 => omega
    case c3 => unfold maxLen; omega
    case c4 => omega
    intro v1 w1 ho hg _ _
    have hb := below_grown (Below.refl B w) hown hg hB
    go_wp2_with fail
    go_ret
    exact ⟨_, rfl, ho, hb⟩
  · go_enter Try.func67, Try.ntmps67
    go_wp2_with (at_builtin; go_must (refine wpList_append_own_at _ rfl _ _ 94 rfl B 96 i0 _ 2 32 Try.underlying94 hi'.out hz0 hz1 hz2 rfl (by decide) _ n xs rfl hown ⟨vb, 0, none⟩ 1 1 qs rfl ?c0 hcell.out hq1 ?c3 ?c4 hB ?_))
    case c0 => omega
    case c3 => unfold maxLen; omega
    case c4 => omega
    intro v1 w1 ho hg _ _
    have hb := below_grown (Below.refl B w) hown hg hB
    go_wp2_with fail
    go_ret
    exact ⟨_, rfl, ho, hb⟩
end Go.Proofs.Ytdfoimgckahjpaa
