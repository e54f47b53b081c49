/-
  Many cells of one block written at once. No conditions.
-/
import Derived.Test.YtdfoimgckahjpaaInsN
import Derived.Deep.Upon
namespace Go.Proofs.Ytdfoimgckahjpaa
open Go.RowKit
/-- cells written one behind the other -/
def putA (cs : Array Value) (o : Nat) : List Value → Array Value
  | [] => cs
  | v :: vs => putA (cs.setIfInBounds o v) (o + 1) vs
theorem Blk.sets {b : Nat} {T : TypeId} : ∀ (vs : List Value) (o : Nat) (w : World) (cs : Array Value), Blk w b cs T → Blk (w.setCells b o vs) b (putA cs o vs) T
  | [], _, _, _, h => h
  | v :: vs, o, w, cs, h => Blk.sets vs (o + 1) (w.setCell ⟨b, o, none⟩ v) (cs.setIfInBounds o v) (h.set o v)
theorem putA_list : ∀ (vs A M C : List Value), M.length = vs.length → putA (A ++ M ++ C).toArray A.length vs = (A ++ vs ++ C).toArray
  | [], A, M, C, h => by
    obtain rfl : M = [] := List.eq_nil_of_length_eq_zero h
    rfl
  | v :: vs, A, [], C, h => by simp at h
  | v :: vs, A, m :: M, C, h => by
    have e : (A ++ m :: M ++ C).toArray.setIfInBounds A.length v = ((A ++ [v]) ++ M ++ C).toArray := by
      rw [List.setIfInBounds_toArray]
      congr 1
      simp
    rw [putA, e, show A.length + 1 = (A ++ [v]).length by simp, putA_list vs (A ++ [v]) M C (by simpa using h)]
    simp
theorem Below.sets {B b : Nat} {w0 : World} (hb : B ≤ b) : ∀ (vs : List Value) (o : Nat) (w : World), Below B w0 w → Below B w0 (w.setCells b o vs)
  | [], _, _, h => h
  | v :: vs, o, w, h => Below.sets hb vs (o + 1) (w.setCell ⟨b, o, none⟩ v) (h.setCell (p := ⟨b, o, none⟩) hb v)
set_option maxRecDepth 100000 in
set_option maxHeartbeats 4000000 in
/-- overlaps of two slices in two blocks -/
theorem overlaps_no {w : World} {vb g o lb cb : Nat} {qs : List Value} {cur : Array Value} (hv : Blk w vb qs.toArray 96) (hg : Blk w g cur 96) (hne : vb ≠ g) (hc : 0 < cur.size) :
    (callFunc 71 #[.slice (some ⟨vb, 0, none⟩) 1 1, .slice (some ⟨g, o, none⟩) lb cb]).run Try.prog w = .ok (.value (.bool false)) w := by
  obtain ⟨i0, hi, hz0, hz1, hz2⟩ := info_parts info_node
  have hs1 : w.shape? vb = some (96, qs.length) := by have h := hv; unfold Blk at h; simp [World.shape?, h]
  have hs2 : w.shape? g = some (96, cur.size) := by have h := hg; unfold Blk at h; simp [World.shape?, h]
  have hsz : ∀ w, (Go.sizeOf 96).run Try.prog w = .ok 2 w := fun w => by simp [Go.sizeOf, typeInfo, hi, hz1]
  rw [run_callFunc_extern Try.func71 (by kernel_rfl) (by kernel_rfl) (by kernel_rfl) (e := Extern.SlicesOverlaps.overlaps #[94, 94] #[4]) (by kernel_rfl),
    Lib.run_overlaps_apart w 94 4 96 Try.underlying94 2 hsz ⟨vb, 0, none⟩ ⟨g, o, none⟩ 1 1 lb cb hne _ _ _ _ hs1 hs2 (by omega) (hv.free 0 none) (hv.free _ none)]
  rfl
theorem putA_size : ∀ (vs : List Value) (cs : Array Value) (o : Nat), (putA cs o vs).size = cs.size
  | [], _, _ => rfl
  | v :: vs, cs, o => by rw [putA, putA_size vs, Array.size_setIfInBounds]
theorem shift_list {cur : Array Value} {n i : Nat} {xs qs : List Value} (hx : cur.toList.take (n * 2) = xs) (hxl : xs.length = n * 2) (hi : i ≤ n) (hc : (n + 1) * 2 ≤ cur.size) (hq : qs.length = 2) :
    ∃ T : Unit, (putA (putA cur ((i + 1) * 2) (xs.drop (i * 2))) (i * 2) qs).toList.take ((n + 1) * 2) = xs.take (i * 2) ++ qs ++ xs.drop (i * 2) ∧ T = T := by
  refine ⟨(), ?_, rfl⟩
  obtain ⟨A, hA⟩ : ∃ A, xs.take (i * 2) = A := ⟨_, rfl⟩
  obtain ⟨D, hD⟩ : ∃ D, xs.drop (i * 2) = D := ⟨_, rfl⟩
  have hAl : A.length = i * 2 := by rw [← hA, List.length_take]; omega
  have hDl : D.length = (n - i) * 2 := by rw [← hD, List.length_drop, hxl]; omega
  have hAD : A ++ D = xs := by rw [← hA, ← hD, List.take_append_drop]
  have hcl : cur.toList.length = cur.size := Array.length_toList
  obtain ⟨E, hE⟩ : ∃ E, D ++ (cur.toList.drop (n * 2)).take 2 = E := ⟨_, rfl⟩
  obtain ⟨R, hR⟩ : ∃ R, (cur.toList.drop (n * 2)).drop 2 = R := ⟨_, rfl⟩
  have hEl : E.length = D.length + 2 := by rw [← hE, List.length_append, List.length_take, List.length_drop]; omega
  have hcur : cur = (A ++ E ++ R).toArray := by
    have h1 : A ++ E ++ R = cur.toList := by rw [← hE, ← hR, ← List.append_assoc, hAD, ← hx, List.append_assoc, List.take_append_drop, List.take_append_drop]
    rw [h1]
  have h1 : putA cur ((i + 1) * 2) D = (A ++ E.take 2 ++ D ++ R).toArray := by
    rw [hcur, show A ++ E ++ R = (A ++ E.take 2) ++ E.drop 2 ++ R by rw [List.append_assoc A (E.take 2), List.take_append_drop], show (i + 1) * 2 = (A ++ E.take 2).length by rw [List.length_append, List.length_take]; omega]
    exact putA_list D _ _ _ (by rw [List.length_drop]; omega)
  have h2 : putA (A ++ E.take 2 ++ D ++ R).toArray (i * 2) qs = (A ++ qs ++ (D ++ R)).toArray := by
    rw [show A ++ E.take 2 ++ D ++ R = A ++ E.take 2 ++ (D ++ R) by rw [List.append_assoc (A ++ E.take 2)], ← hAl]
    exact putA_list qs _ _ _ (by rw [List.length_take]; omega)
  rw [hD, h1, h2, hA]
  show (A ++ qs ++ (D ++ R)).take ((n + 1) * 2) = _
  rw [← List.append_assoc, List.take_append_of_le_length (by simp only [List.length_append]; omega), List.take_of_length_le (by simp only [List.length_append]; omega)]
set_option maxRecDepth 100000 in
set_option maxHeartbeats 4000000 in
/-- in the middle, where there is room -/
theorem insN_shift {w : World} {B n i c vb g : Nat} {xs qs : List Value} {cur : Array Value} (hg : Blk w g cur 96) (hcs : cur.size = c * 2) (hx : cur.toList.take (n * 2) = xs) (hx1 : ∀ u ∈ xs, u.oneCell' = true) (hv : Blk w vb qs.toArray 96) (hq : qs.length = 2) (hq1 : ∀ u ∈ qs, u.oneCell' = true) (hn : n ≤ 1000) (hi : i < n) (hroom : n + 1 ≤ c) (hcm : c ≤ 9223372036854775807) (hB : B ≤ g) (hne : vb ≠ g) :
    Calls Try.prog 67 #[.slice (some ⟨g, 0, none⟩) n c, .int .i64 (i : Nat), .slice (some ⟨vb, 0, none⟩) 1 1] w fun e w' => ∃ v', e = .returned v' ∧ w'.ownsRow B 96 2 v' (n + 1) (xs.take (i * 2) ++ qs ++ xs.drop (i * 2)) ∧ Below B w w' := by
  have hov := fun lb cb o => overlaps_no (lb := lb) (cb := cb) (o := o) hv hg hne (by omega)
  have hxl : xs.length = n * 2 := by rw [← hx, List.length_take, Array.length_toList]; omega
  have hiI : (i : Int) < (n : Int) := by omega
  have hnI : (n : Int) ≤ 1000 := by omega
  have hrI : (n : Int) + 1 ≤ (c : Int) := by omega
  have hsize : (Try.prog.info? 96).map (·.size) = some 2 := by
    obtain ⟨i0, hi, hz0, hz1, hz2⟩ := info_parts info_node
    rw [hi]; simp [hz1]
  have hcell : ∀ j v, xs[j]? = some v → w.cell? ⟨g, j, none⟩ = some v := fun j v hj => by
    rw [hg.cell]
    rw [← hx, List.getElem?_take] at hj
    split at hj
    · simpa using hj
    · cases hj
  have hdl : (xs.drop (i * 2)).length = (n - i) * 2 := by rw [List.length_drop, hxl]; omega
  have hcp1 : ∀ ty dc sc, (Builtin.copy_ #[94, 94] ty #[.slice (some ⟨g, (i + 1) * 2, none⟩) (n + 1 - (i + 1)) dc, .slice (some ⟨g, i * 2, none⟩) (n + 1 - i) sc]).run Try.prog w.drew = .ok (goInt (n - i)) (w.drew.setCells g ((i + 1) * 2) (xs.drop (i * 2))) := fun ty dc sc => by
    have h := run_copy2 (P := Try.prog) w.drew 94 94 ty 96 g ((i + 1) * 2) (n + 1 - (i + 1)) dc ⟨g, i * 2, none⟩ (n + 1 - i) sc (xs.drop (i * 2)) Try.underlying94 hsize (by rw [hdl]; simp only [Nat.min_def]; split <;> omega)
      (fun j v hj => by
        rw [show (⟨g, i * 2, none⟩ : Addr).add j = ⟨g, i * 2 + j, none⟩ by unfold Addr.add; split <;> simp_all]
        exact hcell _ _ (by rwa [List.getElem?_drop] at hj))
      (fun j hj => by
        rw [(show Blk w.drew g cur _ from hg).cell]
        rw [Array.getElem?_eq_getElem (by rw [hdl] at hj; omega)]; rfl)
      (fun j hj => (show Blk w.drew g cur _ from hg).free _ _) (fun v hv => hx1 v (List.mem_of_mem_drop hv))
    rw [h]
    congr 2
    simp only [Nat.min_def]; split <;> omega
  have hsl := shift_list (cur := cur) (n := n) (i := i) (qs := qs) hx hxl (Nat.le_of_lt hi) (by omega) hq
  obtain ⟨_, hT1, _⟩ := hsl
  have hb1 : Blk (w.drew.setCells g ((i + 1) * 2) (xs.drop (i * 2))) g (putA cur ((i + 1) * 2) (xs.drop (i * 2))) 96 := Blk.sets _ _ w.drew _ hg
  have hv1 : Blk (w.drew.setCells g ((i + 1) * 2) (xs.drop (i * 2))) vb qs.toArray 96 := (World.heap_setCells_other w.drew g _ _ hv.lt hne).trans hv
  have hbel1 : Below B w (w.drew.setCells g ((i + 1) * 2) (xs.drop (i * 2))) := Below.sets hB _ _ _ (Below.refl _ _).drew
  have hs1 := putA_size (xs.drop (i * 2)) cur ((i + 1) * 2)
  obtain ⟨W1, hW1⟩ : ∃ W1, w.drew.setCells g ((i + 1) * 2) (xs.drop (i * 2)) = W1 := ⟨_, rfl⟩
  obtain ⟨cur1, hcur1⟩ : ∃ c1, putA cur ((i + 1) * 2) (xs.drop (i * 2)) = c1 := ⟨_, rfl⟩
  rw [hW1] at hcp1 hb1 hv1 hbel1
  rw [hcur1] at hb1 hs1 hT1
  have hcp2 : ∀ W, Blk W g cur1 96 → Blk W vb qs.toArray 96 → ∀ ty dc, (Builtin.copy_ #[94, 94] ty #[.slice (some ⟨g, i * 2, none⟩) (n + 1 - i) dc, .slice (some ⟨vb, 0, none⟩) 1 1]).run Try.prog W = .ok (goInt 1) (W.setCells g (i * 2) qs) := fun W hWg hWv ty dc => by
    have h := run_copy2 (P := Try.prog) W 94 94 ty 96 g (i * 2) (n + 1 - i) dc ⟨vb, 0, none⟩ 1 1 qs Try.underlying94 hsize (by rw [hq]; simp only [Nat.min_def]; split <;> omega)
      (fun j v hj => by
        rw [show (⟨vb, 0, none⟩ : Addr).add j = ⟨vb, 0 + j, none⟩ by unfold Addr.add; split <;> simp_all, hWv.cell, Nat.zero_add]
        simpa using hj)
      (fun j hj => by rw [hWg.cell, Array.getElem?_eq_getElem (by omega)]; rfl)
      (fun j hj => hWg.free _ _) hq1
    rw [h]
    congr 2
    simp only [Nat.min_def]; split <;> omega
  have hfin : ∀ W, Blk W g cur1 96 → Below B w W → (W.setCells g (i * 2) qs).ownsRow B 96 2 (.slice (some ⟨g, 0, none⟩) (n + 1) c) (n + 1) (xs.take (i * 2) ++ qs ++ xs.drop (i * 2)) ∧ Below B w (W.setCells g (i * 2) qs) := fun W hWg hWb => by
    refine ⟨⟨?_, .inr ⟨g, c, _, rfl, hB, Blk.sets qs (i * 2) W cur1 hWg, hroom, by unfold maxLen; omega, by rw [putA_size, hs1, hcs], hT1⟩⟩, Below.sets hB _ _ _ hWb⟩
    simp only [List.length_append, List.length_take, hdl, hq, hxl]; omega
  replace hfin := Lib.hid hfin
  simp only [Nat.add_sub_add_right] at hcp1
  have mixed : Try.prog.follows Departure.mixedOrders = true := by kernel_rfl
  have hw1 : IntKind.i64.wrap ((i : Int) + 1) = (i : Int) + 1 := by rw [IntKind.wrap_i64]; omega
  have hp1 : (0 : Int) ≤ (i : Int) + 1 := by omega
  have hp2 : (i : Int) + 1 ≤ (n : Int) + 1 := by omega
  have hp3 : ((i : Int) + 1).toNat = i + 1 := by omega
  have hp4 : ¬ (c = i + 1) := by omega
  have hp5 : ¬ (c = i) := by omega
  have hp6 : (i : Int) ≤ (n : Int) + 1 := by omega
  have hp7 : i ≤ n + 1 := by omega
  clear hx hx1 hcell hT1
  go_enter Try.func67, Try.ntmps67
  go_wp2_with (simp only [hov])
  go_region_law_o (refine Go.Proofs.step_copy_runI rfl _ _ 94 94 rfl _ _ (by simp [Act.eval, Act.put]) (by simp [Act.eval, Act.put]) (hcp1 _ _ _) ?_)
  go_wp2_with (at_builtin; refine Go.Proofs.wpList_copy_runI _ rfl _ _ 94 94 rfl _ _ rfl rfl (hcp2 W1 hb1 hv1 _ _) ?_)
  go_ret
  exact ⟨_, rfl, hfin.out _ hb1 hbel1⟩
end Go.Proofs.Ytdfoimgckahjpaa
