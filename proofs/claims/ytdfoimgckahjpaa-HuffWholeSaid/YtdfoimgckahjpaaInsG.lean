/-
  slices.Insert of one node in the middle, where there is no room. No conditions.
-/
import Derived.Test.YtdfoimgckahjpaaCells
namespace Go.Proofs.Ytdfoimgckahjpaa
open Go.RowKit
set_option maxRecDepth 100000 in
set_option maxHeartbeats 4000000 in
theorem insN_grow {w : World} {B n i c vb g : Nat} {xs qs : List Value} {cur : Array Value} (hg : Blk w g cur 96) (hcs : cur.size = c * 2) (hx : cur.toList.take (n * 2) = xs) (hx1 : ∀ u ∈ xs, u.oneCell' = true) (hv : Blk w vb qs.toArray 96) (hq : qs.length = 2) (hq1 : ∀ u ∈ qs, u.oneCell' = true) (hn : n ≤ 1000) (hi : i < n) (hroom : c < n + 1) (hnc : n ≤ c) (hB : B ≤ w.heap.size) :
    Calls Try.prog 67 #[.slice (some ⟨g, 0, none⟩) n c, .int .i64 (i : Nat), .slice (some ⟨vb, 0, none⟩) 1 1] w fun e w' => ∃ v', e = .returned v' ∧ w'.ownsRow B 96 2 v' (n + 1) (xs.take (i * 2) ++ qs ++ xs.drop (i * 2)) ∧ Below B w w' := by
  obtain rfl : c = n := by omega
  have hiI : (i : Int) < (c : Int) := by omega
  have hnI : (c : Int) ≤ 1000 := by omega
  have hw1 : IntKind.i64.wrap ((i : Int) + 1) = (i : Int) + 1 := by rw [IntKind.wrap_i64]; omega
  have hp1 : (0 : Int) ≤ (i : Int) + 1 := by omega
  have hp3 : ((i : Int) + 1).toNat = i + 1 := by omega
  have hp5 : ¬ (c = i) := by omega
  have mixed : Try.prog.follows Departure.mixedOrders = true := by kernel_rfl
  obtain ⟨i0, hi0, hz0, hz1, hz2⟩ := info_parts info_node
  have hsize : (Try.prog.info? 96).map (·.size) = some 2 := by rw [hi0]; simp [hz1]
  have hxl : xs.length = c * 2 := by rw [← hx, List.length_take, Array.length_toList]; omega
  have hcell : ∀ j v, xs[j]? = some v → w.cell? ⟨g, j, none⟩ = some v := fun j v hj => by
    rw [hg.cell]
    rw [← hx, List.getElem?_take] at hj
    split at hj
    · simpa using hj
    · cases hj
  obtain ⟨k, hk⟩ : ∃ k, c + 1 - i = k := ⟨_, rfl⟩
  have hik : i + k = c + 1 := by omega
  have hge := grownCap_ge w (c + 1) c 96
  have hmax := grownCap_le_maxLen w (c + 1) c 96 (by unfold maxLen; omega)
  obtain ⟨G, hG⟩ : ∃ G, grownCap w (c + 1) c 96 = G := ⟨_, rfl⟩
  rw [hG] at hge hmax
  have hG63 : G ≤ 9223372036854775807 := by unfold maxLen at hmax; omega
  have hkI : (c : Int) + 1 - (i : Int) = (k : Int) := by omega
  have hrz : ∀ ty, (Builtin.append_ #[94, 3] ty #[.slice (some ⟨g, 0, none⟩) i c, .int .i64 (k : Nat)]).run Try.prog w =
      .ok (.slice (some ⟨w.heap.size, 0, none⟩) (c + 1) G) (w.drew.alloc (.cells ((xs.take (i * 2)).toArray ++ Builtin.zeroCells (Value.agg #[.int .i64 0, .slice none 0 0]).cells k ++ Builtin.zeroCells (Value.agg #[.int .i64 0, .slice none 0 0]).cells (G - (c + 1))) 96)) := fun ty => by
    have h := Lib.run_append_grow_zeros w 94 3 ty 96 i0 _ .i64 .i64 Try.underlying94 Try.underlying3 hi0 hz0 (some ⟨g, 0, none⟩) i c (xs.take (i * 2))
      (run_firstCells_some w.drew i0.size i ⟨g, 0, none⟩ i c (xs.take (i * 2)) (by rw [hz1, List.length_take]; omega) (fun j v hj => by
        rw [show (⟨g, 0, none⟩ : Addr).add j = ⟨g, 0 + j, none⟩ by unfold Addr.add; split <;> simp_all, Nat.zero_add]
        rw [List.getElem?_take] at hj
        split at hj
        · exact hcell j v hj
        · cases hj)) k (by omega) (by omega) (by omega) (by omega) (by rw [hz2]; omega)
      (by rw [hik]; exact growslice_fits (by omega) (by rw [hz2]; omega))
    rw [hik, hG] at h
    exact h
  have hz9 : (Value.agg #[.int .i64 0, .slice none 0 0]).cells.size = 2 := rfl
  obtain ⟨arr, harr⟩ : ∃ arr, ((xs.take (i * 2)).toArray ++ Builtin.zeroCells (Value.agg #[.int .i64 0, .slice none 0 0]).cells k ++ Builtin.zeroCells (Value.agg #[.int .i64 0, .slice none 0 0]).cells (G - (c + 1))) = arr := ⟨_, rfl⟩
  have hsz : arr.size = G * 2 := by
    rw [← harr]
    simp only [Builtin.zeroCells, Array.size_append, List.size_toArray, List.length_take, hxl]
    simp [hz9]
    omega
  have hal : arr.toList.take (i * 2) = xs.take (i * 2) := by
    rw [← harr]
    simp only [Array.toList_append]
    rw [List.append_assoc, List.take_append_of_le_length (by simp only [List.length_take, hxl]; omega), List.take_of_length_le (by simp only [List.length_take]; omega)]
  rw [harr] at hrz
  have hb2 : Blk (w.drew.alloc (.cells arr 96)) w.heap.size arr 96 := Blk.new w.drew arr 96
  have hbel := below_alloc ((Below.refl w.heap.size w).drew) (.cells arr 96) (Nat.le_refl _)
  have hv2 := hv.below hbel hv.lt
  have hg2 := hg.below hbel hg.lt
  have hvl := hv.lt
  have hgl := hg.lt
  obtain ⟨W2, hW2⟩ : ∃ W2, w.drew.alloc (.cells arr 96) = W2 := ⟨_, rfl⟩
  rw [hW2] at hrz hb2 hbel hv2 hg2
  have hcp1 : ∀ ty dc, (Builtin.copy_ #[94, 94] ty #[.slice (some ⟨w.heap.size, i * 2, none⟩) k dc, .slice (some ⟨vb, 0, none⟩) 1 1]).run Try.prog W2 = .ok (goInt 1) (W2.setCells w.heap.size (i * 2) qs) := fun ty dc => by
    have h := run_copy2 (P := Try.prog) W2 94 94 ty 96 w.heap.size (i * 2) k dc ⟨vb, 0, none⟩ 1 1 qs Try.underlying94 hsize (by rw [hq]; simp only [Nat.min_def]; split <;> omega)
      (fun j v hj => by
        rw [show (⟨vb, 0, none⟩ : Addr).add j = ⟨vb, 0 + j, none⟩ by unfold Addr.add; split <;> simp_all, hv2.cell, Nat.zero_add]
        simpa using hj)
      (fun j hj => by rw [hb2.cell, Array.getElem?_eq_getElem (by omega)]; rfl)
      (fun j hj => hb2.free _ _) hq1
    rw [h]
    congr 2
    simp only [Nat.min_def]; split <;> omega
  have hne1 : g ≠ w.heap.size := by omega
  have hb3 := Blk.sets qs (i * 2) W2 arr hb2
  have hg3 : Blk (W2.setCells w.heap.size (i * 2) qs) g cur 96 := (World.heap_setCells_other W2 w.heap.size _ _ hg2.lt hne1).trans hg2
  have hbel3 := Below.sets (Nat.le_refl w.heap.size) qs (i * 2) W2 hbel
  have hs3 := putA_size qs arr (i * 2)
  have hdl : (xs.drop (i * 2)).length = (c - i) * 2 := by rw [List.length_drop, hxl]; omega
  have hlist : (putA (putA arr (i * 2) qs) ((i + 1) * 2) (xs.drop (i * 2))).toList.take ((c + 1) * 2) = xs.take (i * 2) ++ qs ++ xs.drop (i * 2) := by
    obtain ⟨A, hA⟩ : ∃ A, xs.take (i * 2) = A := ⟨_, rfl⟩
    obtain ⟨D, hD⟩ : ∃ D, xs.drop (i * 2) = D := ⟨_, rfl⟩
    obtain ⟨E, hE⟩ : ∃ E, arr.toList.drop (i * 2) = E := ⟨_, rfl⟩
    have hAl : A.length = i * 2 := by rw [← hA, List.length_take]; omega
    rw [hD] at hdl
    have hEl : E.length = G * 2 - i * 2 := by rw [← hE, List.length_drop, Array.length_toList, hsz]
    have harr2 : arr = (A ++ E.take 2 ++ E.drop 2).toArray := by
      rw [List.append_assoc, List.take_append_drop, ← hA, ← hal, ← hE, List.take_append_drop]
    have h1 : putA arr (i * 2) qs = (A ++ qs ++ E.drop 2).toArray := by
      rw [harr2, ← hAl]
      exact putA_list qs _ _ _ (by rw [List.length_take]; omega)
    have h2 : putA (A ++ qs ++ E.drop 2).toArray ((i + 1) * 2) D = (A ++ qs ++ D ++ (E.drop 2).drop D.length).toArray := by
      rw [show A ++ qs ++ E.drop 2 = (A ++ qs) ++ (E.drop 2).take D.length ++ (E.drop 2).drop D.length by rw [List.append_assoc (A ++ qs), List.take_append_drop], show (i + 1) * 2 = (A ++ qs).length by rw [List.length_append]; omega]
      exact putA_list D _ _ _ (by rw [List.length_take, List.length_drop]; omega)
    rw [hD, h1, h2, hA]
    show (A ++ qs ++ D ++ (E.drop 2).drop D.length).take ((c + 1) * 2) = _
    rw [List.take_append_of_le_length (by simp only [List.length_append]; omega), List.take_of_length_le (by simp only [List.length_append]; omega)]
  obtain ⟨W3, hW3⟩ : ∃ W3, W2.setCells w.heap.size (i * 2) qs = W3 := ⟨_, rfl⟩
  rw [hW3] at hcp1 hb3 hg3 hbel3
  have hcp2 : ∀ ty dc sc, (Builtin.copy_ #[94, 94] ty #[.slice (some ⟨w.heap.size, (i + 1) * 2, none⟩) (c - i) dc, .slice (some ⟨g, i * 2, none⟩) (c - i) sc]).run Try.prog W3.drew = .ok (goInt (c - i)) (W3.drew.setCells w.heap.size ((i + 1) * 2) (xs.drop (i * 2))) := fun ty dc sc => by
    have h := run_copy2 (P := Try.prog) W3.drew 94 94 ty 96 w.heap.size ((i + 1) * 2) (c - i) dc ⟨g, i * 2, none⟩ (c - i) sc (xs.drop (i * 2)) Try.underlying94 hsize (by rw [hdl]; simp only [Nat.min_def]; split <;> omega)
      (fun j v hj => by
        rw [show (⟨g, i * 2, none⟩ : Addr).add j = ⟨g, i * 2 + j, none⟩ by unfold Addr.add; split <;> simp_all]
        rw [List.getElem?_drop] at hj
        have h1 := hcell _ _ hj
        rw [hg.cell] at h1
        rw [(show Blk W3.drew g cur _ from hg3).cell]
        exact h1)
      (fun j hj => by rw [(show Blk W3.drew w.heap.size _ _ from hb3).cell, Array.getElem?_eq_getElem (by rw [hs3, hsz]; omega)]; rfl)
      (fun j hj => (show Blk W3.drew w.heap.size _ _ from hb3).free _ _) (fun u hu => hx1 u (List.mem_of_mem_drop hu))
    rw [h]
    congr 2
    simp only [Nat.min_def]; split <;> omega
  have hfin : (W3.drew.setCells w.heap.size ((i + 1) * 2) (xs.drop (i * 2))).ownsRow B 96 2 (.slice (some ⟨w.heap.size, 0, none⟩) (c + 1) G) (c + 1) (xs.take (i * 2) ++ qs ++ xs.drop (i * 2)) ∧ Below B w (W3.drew.setCells w.heap.size ((i + 1) * 2) (xs.drop (i * 2))) := by
    refine ⟨⟨?_, .inr ⟨w.heap.size, G, _, rfl, hB, Blk.sets _ _ W3.drew _ hb3, hge, hmax, by rw [putA_size, hs3, hsz], hlist⟩⟩, (Below.sets (Nat.le_refl w.heap.size) _ _ W3.drew hbel3.drew).mono hB⟩
    simp only [List.length_append, List.length_take, hdl, hq, hxl]; omega
  replace hfin := Lib.hid hfin
  have hp2 : (i : Int) + 1 ≤ (c : Int) + 1 := by omega
  have hp4 : ¬ (G = i + 1) := by omega
  have hp7 : i ≤ c := by omega
  have hGI : (c : Int) + 1 ≤ (G : Int) := by omega
  clear hlist hcell hx hx1
  go_enter Try.func67, Try.ntmps67
  go_wp2_with (at_builtin; refine Lib.wpList_append_run _ rfl _ _ _ _ rfl _ _ rfl rfl _ _ (hrz _) ?_)
  go_region_law_o (refine Go.Proofs.step_copy_runI rfl _ _ 94 94 rfl _ _ (by simp [Act.eval, Act.put]) (by simp [Act.eval, Act.put]) (hcp2 _ _ _) ?_)
  go_wp2_with fail
  go_ret
  exact ⟨_, rfl, hfin.out⟩
end Go.Proofs.Ytdfoimgckahjpaa
