/-
  The walk of the law's told: what the other machine hears.
-/
import Derived.Test.YtjcigaonadkhkaaFsmEnds
import Derived.Test.YtjcigaonadkhkaaQue
namespace Go.Proofs.Ytjcigaonadkhkaa
open Go.RowKit
def toldN : List Nat → List Nat
  | [] => []
  | x :: l => if x = 6 then 6 :: toldN l else if x = 7 then 8 :: toldN l else toldN l
theorem told_snoc (l : List Nat) (x : Nat) : toldN (l ++ [x]) = toldN l ++ (if x = 6 then [6] else if x = 7 then [8] else []) := by
  induction l with
  | nil => simp only [List.nil_append, toldN]
  | cons y l ih =>
    rw [List.cons_append, toldN, toldN, ih]
    by_cases h6 : y = 6
    · simp [h6]
    · by_cases h7 : y = 7
      · simp [h7]
      · simp [h6, h7]
theorem told_len (l : List Nat) : (toldN l).length ≤ l.length := by
  induction l with
  | nil => exact Nat.le_refl _
  | cons y l ih =>
    rw [toldN]
    split
    · simp; omega
    · split <;> simp <;> omega
set_option maxHeartbeats 1000000 in
theorem told_any {w : World} {a : Option Addr} {c B : Nat} {l : List Nat} (h : Nums w B (.slice a l.length c) l) (hl : l.length ≤ 1000) :
    Calls Try.prog 18 #[.slice a l.length c] w fun e w' => ∃ v, e = .returned v ∧ Nums w' w.heap.size v (toldN l) ∧ Below w.heap.size w w' := by
  obtain ⟨i0, hi, hz0, hz1, hz2⟩ := info_parts (show (Try.prog.info? 3).map (fun i => (i.zero, i.size, i.bytes)) = some (some (.int .i64 0), 1, 8) from rfl)
  have hi' := Lib.hid hi
  clear hi
  go_enter Try.func18, Try.ntmps18
  go_wp2
  go_loopw [3, 4] (fun v i wr => ∃ j : Nat, j ≤ l.length ∧ i = .int .i64 j ∧ Nums wr w.heap.size v (toldN (l.take j)) ∧ Below w.heap.size w wr) (fun _ i _ => l.length - (intOf i).toNat)
  case atStart => exact ⟨0, by omega, rfl, Nums.nil _ _, Below.refl _ _⟩
  case round =>
    obtain ⟨j, hj, rfl, hown, hb⟩ := hrel
    have hsz := hb.size
    by_cases hlt : j < l.length
    · obtain ⟨r, rfl, g1⟩ := (h.below hb).cell hlt
      have hsn := told_snoc (l.take j) l[j]
      rw [← List.take_succ_eq_append_getElem hlt] at hsn
      have hle := told_len (l.take j)
      rw [List.length_take] at hle
      generalize l[j] = X at *
      generalize toldN (l.take j) = L at *
      have hsn' := Lib.hid hsn
      clear hsn
      unfold Nums at hown
      by_cases h6 : X = 6
      · subst h6
        go_wp2_with (at_builtin; go_must (refine wp_app1 rfl _ _ 23 rfl w.heap.size 3 i0 _ 8 Try.underlying23 hi'.out hz0 hz1 hz2 rfl _ L.length _ rfl hown (.int .i64 6) (by rfl) rfl (by unfold maxLen; omega) (by omega) hsz ?_))
        intro v1 w1 ho1 hg1
        have hb1 := below_grown hb hown hg1 hsz
        clear hg1 hown
        go_wp2
        go_roundw
        case rel => exact ⟨j + 1, by omega, by go_num, by rw [hsn'.out]; exact own_congr ho1 (by simp) (by simp [iv]), hb1⟩
        case measure => simp [intOf]; omega
      · have k6 : ((X : Int) == 6) = false := by simp; omega
        by_cases h7 : X = 7
        · subst h7
          go_wp2_with (at_builtin; go_must (refine wp_app1 rfl _ _ 23 rfl w.heap.size 3 i0 _ 8 Try.underlying23 hi'.out hz0 hz1 hz2 rfl _ L.length _ rfl hown (.int .i64 8) (by rfl) rfl (by unfold maxLen; omega) (by omega) hsz ?_))
          intro v1 w1 ho1 hg1
          have hb1 := below_grown hb hown hg1 hsz
          clear hg1 hown
          go_wp2
          go_roundw
          case rel => exact ⟨j + 1, by omega, by go_num, by rw [hsn'.out]; exact own_congr ho1 (by simp) (by simp [iv]), hb1⟩
          case measure => simp [intOf]; omega
        · have k7 : ((X : Int) == 7) = false := by simp; omega
          go_wp2
          go_roundw
          case rel => exact ⟨j + 1, by omega, by go_num, by rw [hsn'.out, if_neg h6, if_neg h7, List.append_nil]; exact hown, hb⟩
          case measure => simp [intOf]; omega
    · obtain rfl : j = l.length := by omega
      rw [List.take_of_length_le (Nat.le_refl _)] at hown
      go_wp2_with fail
      go_ret
      exact ⟨_, rfl, hown, hb⟩
end Go.Proofs.Ytjcigaonadkhkaa
