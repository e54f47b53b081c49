/-
  The walk of the question whether deeds are few and small. No conditions.
-/
import Derived.Test.YtdfoimgckahjpaaDeeds
import Derived.Test.YtdfoimgckahjpaaBitsTwo
namespace Go.Proofs.Ytdfoimgckahjpaa
open Go.RowKit
/-- are deeds few and small? -/
def roomB (n : Nat) (f : Nat → DV) : Bool := decide (n ≤ 100) && (List.range n).all fun i => decide ((f i).bn ≤ 50)
theorem roomB_yes {n : Nat} {f : Nat → DV} (h : roomB n f = true) : n ≤ 100 ∧ ∀ i, i < n → (f i).bn ≤ 50 := by
  unfold roomB at h
  rw [Bool.and_eq_true, decide_eq_true_eq, List.all_eq_true] at h
  exact ⟨h.1, fun i hi => by simpa using h.2 i (List.mem_range.2 hi)⟩
theorem roomB_far {n : Nat} {f : Nat → DV} (h : 100 < n) : roomB n f = false := by
  unfold roomB; rw [decide_eq_false (by omega)]; rfl
theorem roomB_big {n k : Nat} {f : Nat → DV} (hk : k < n) (h : 50 < (f k).bn) : roomB n f = false := by
  unfold roomB
  rw [Bool.and_eq_false_iff]
  right
  rw [List.all_eq_false]
  exact ⟨k, List.mem_range.2 hk, by simp; exact h⟩
theorem roomB_all {n : Nat} {f : Nat → DV} (hn : n ≤ 100) (h : ∀ i, i < n → (f i).bn ≤ 50) : roomB n f = true := by
  unfold roomB
  rw [Bool.and_eq_true, decide_eq_true_eq, List.all_eq_true]
  exact ⟨hn, fun i hi => by simpa using h i (List.mem_range.1 hi)⟩
theorem room_any {w : World} {a : Option Addr} {n c : Nat} {f : Nat → DV} (h : Deeds w a n c f) :
    Calls Try.prog 26 #[.slice a n c] w fun e w' => e = .returned (.bool (roomB n f)) ∧ w = w' := by
  have hc1 := h.cap
  have hc2 := h.most
  by_cases hn : 100 < n
  · have hr := Lib.hid (roomB_far (f := f) hn)
    go_enter Try.func26, Try.ntmps26
    go_wp2_with fail
    go_ret
    exact ⟨ret_bool hr.out.symm, rfl⟩
  · go_enter Try.func26, Try.ntmps26
    go_wp2_with fail
    go_loop [3] (fun i => ∃ k : Nat, k ≤ n ∧ i = .int .i64 k ∧ ∀ j, j < k → (f j).bn ≤ 50) (fun i => n - (intOf i).toNat)
    case atStart => exact ⟨0, by omega, rfl, fun j hj => by omega⟩
    case round =>
      obtain ⟨k, hk, rfl, hall⟩ := hrel
      have hall' := Lib.hid hall; clear hall
      by_cases hlt : k < n
      · obtain ⟨b, o, rfl, hc⟩ := h.addr (by omega)
        have g3 := (hc k hlt).2.2.2
        clear hc
        have hrow := (h.row k hlt).le
        by_cases hb : (f k).bn ≤ 50
        · have hnx : ∀ j, j < k + 1 → (f j).bn ≤ 50 := fun j hj => by
            by_cases e : j = k
            · subst e; exact hb
            · exact hall'.out j (by omega)
          have hnx' := Lib.hid hnx; clear hnx
          generalize (f k).bn = bn at *
          generalize (f k).bc = bc at *
          generalize (f k).ba = ba at *
          go_wp2_with fail
          go_round
          case rel => exact ⟨k + 1, by omega, by go_num, hnx'.out⟩
          case measure => simp [intOf]; omega
        · have hr := Lib.hid (roomB_big (f := f) hlt (by omega))
          generalize (f k).bn = bn at *
          generalize (f k).bc = bc at *
          generalize (f k).ba = ba at *
          go_wp2_with fail
          go_ret
          exact ⟨ret_bool hr.out.symm, rfl⟩
      · obtain rfl : k = n := by omega
        have hr := Lib.hid (roomB_all (f := f) (by omega) hall'.out)
        go_wp2_with fail
        go_ret
        exact ⟨ret_bool hr.out.symm, rfl⟩
end Go.Proofs.Ytdfoimgckahjpaa
