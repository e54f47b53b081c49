/-
  The walks of FsmKnown, FsmSteps and FsmTables.
-/
import Derived.Test.YtjcigaonadkhkaaFsmAw
import Derived.Test.YtjcigaonadkhkaaWf
namespace Go.Proofs.Ytjcigaonadkhkaa
open Go.RowKit
theorem ints_same {w : World} {a b : Option Addr} {c d B B' n : Nat} {l : List Nat} (h1 : Nums w B (.slice a n c) l) (h2 : Nums w B' (.slice b n d) l) (hn : n = l.length) :
    Calls Try.prog 16 #[.slice a n c, .slice b n d] w fun e w' => e = .returned (.bool true) ∧ ∃ m, w' = w.drewN m := by
  subst hn
  refine (ints_any h1 h2).mono ?_
  rintro e w' ⟨rfl, m, rfl⟩
  exact ⟨ret_bool (by simp), m, rfl⟩
set_option maxHeartbeats 1000000 in
theorem steps_any (s0 e0 : Int) (w : World) : Calls Try.prog 3 #[.int .i64 s0, .int .i64 e0] w fun e w' => e = .returned (.bool true) ∧ Below w.heap.size w w' := by
  go_enter Try.func3, Try.ntmps3
  go_wp2_with (go_at_call 13; refine (awake_any _).mono ?_; rintro e w1 ⟨rfl, hb⟩)
  go_loopw [5] (fun i wr => ∃ s : Int, -1 ≤ s ∧ s ≤ 11 ∧ i = .int .i64 s ∧ Below w.heap.size w wr) (fun i _ => (11 - intOf i).toNat)
  case atStart => exact ⟨-1, by omega, by omega, rfl, hb⟩
  case round =>
    clear hb
    obtain ⟨s, hs1, hs2, rfl, hb⟩ := hrel
    by_cases hs : s ≤ 10
    · go_wp2_with fail
      go_loopw [6] (fun i wr => ∃ e : Int, -1 ≤ e ∧ e ≤ 17 ∧ i = .int .i64 e ∧ Below w.heap.size w wr) (fun i _ => (17 - intOf i).toNat)
      case atStart => exact ⟨-1, by omega, by omega, rfl, hb⟩
      case round =>
        clear hb
        obtain ⟨e, he1, he2, rfl, hb⟩ := hrel
        by_cases he : e ≤ 16
        · have hS := fun W => Step_any s e W
          have hR := fun W => RStep_any s e W
          generalize actsI s e = l at *
          generalize nextI s e = n at *
          go_wp2_with (go_at_call 14; refine (hS _).mono ?_; rintro x w1 ⟨a, c, rfl, hN, hb1⟩)
          go_wp2_with (go_at_call 15; refine (hR _).mono ?_; rintro x w2 ⟨a2, c2, rfl, hK, hb2⟩)
          have hN2 := hN.below hb2
          go_wp2_with (go_at_call 16; refine (ints_same hN2 hK rfl).mono ?_; rintro x w3 ⟨rfl, m, rfl⟩)
          have hb3 := below_drewN ((hb.trans (hb1.mono hb.size)).trans (hb2.mono (Nat.le_trans hb.size hb1.size))) m
          go_roundw
          case rel => exact ⟨e + 1, by omega, by omega, by go_num, hb3⟩
          case measure => simp [intOf]; omega
        · obtain rfl : e = 17 := by omega
          go_wp2_with fail
          go_roundw
          case rel => exact ⟨s + 1, by omega, by omega, by go_num, hb⟩
          case measure => simp [intOf]; omega
    · obtain rfl : s = 11 := by omega
      have hS := fun W => Step_any s0 e0 W
      have hR := fun W => RStep_any s0 e0 W
      generalize actsI s0 e0 = l at *
      generalize nextI s0 e0 = n at *
      go_wp2_with (go_at_call 14; refine (hS _).mono ?_; rintro x w1 ⟨a, c, rfl, hN, hb1⟩)
      go_wp2_with (go_at_call 15; refine (hR _).mono ?_; rintro x w2 ⟨a2, c2, rfl, hK, hb2⟩)
      have hN2 := hN.below hb2
      go_wp2_with (go_at_call 16; refine (ints_same hN2 hK rfl).mono ?_; rintro x w3 ⟨rfl, m, rfl⟩)
      have hb3 := below_drewN ((hb.trans (hb1.mono hb.size)).trans (hb2.mono (Nat.le_trans hb.size hb1.size))) m
      go_ret
      exact ⟨ret_bool (by simp), hb3⟩
/-- what FsmTables asks of an action -/
def fine (s n a : Nat) : Prop := a ≤ 12 ∧ (a = 1 → s = 9) ∧ (a = 0 → s ≠ 9 ∧ n = 9) ∧ (a = 12 → s = 9) ∧ (a = 6 → 6 ≤ n) ∧ (a = 9 → n = 4 ∨ n = 5)
instance (s n a : Nat) : Decidable (fine s n a) := inferInstanceAs (Decidable (_ ∧ _))
theorem fine_tab : ∀ s, s < 10 → ∀ e, e < 16 → ∀ a ∈ actsN s e, fine s (nextN s e) a := by decide
theorem fine_cases {s n a : Nat} (h : fine s n a) : (a = 0 ∧ s ≠ 9 ∧ n = 9) ∨ (a = 1 ∧ s = 9) ∨ (a = 12 ∧ s = 9) ∨ (a = 6 ∧ 6 ≤ n) ∨ (a = 9 ∧ n = 4) ∨ (a = 9 ∧ n = 5) ∨ (a ≤ 12 ∧ a ≠ 0 ∧ a ≠ 1 ∧ a ≠ 12 ∧ a ≠ 6 ∧ a ≠ 9) := by
  unfold fine at h; omega
set_option maxRecDepth 100000 in
set_option maxHeartbeats 4000000 in
theorem tables_at (a b : Nat) (ha : a < 256) (hb' : b < 256) (w : World) : Calls Try.prog 5 #[.int .u8 a, .int .u8 b] w fun e w' => e = .returned (.bool true) ∧ Below w.heap.size w w' := by
  have hS := fun W => Step_any ((a % 10 : Nat) : Int) ((b % 16 : Nat) : Int) W
  rw [actsI_in (by omega) (by omega), nextI_in (by omega) (by omega)] at hS
  have hf := fine_tab (a % 10) (by omega) (b % 16) (by omega)
  have hn := (table1 (a % 10) (by omega) (b % 16) (by omega)).1
  have e1 : ((a : Int)).tmod 10 = ((a % 10 : Nat) : Int) := by rw [Int.tmod_eq_emod_of_nonneg (by omega)]; omega
  have e2 : ((b : Int)).tmod 16 = ((b % 16 : Nat) : Int) := by rw [Int.tmod_eq_emod_of_nonneg (by omega)]; omega
  have hs9 : a % 10 ≤ 9 := by omega
  generalize actsN (a % 10) (b % 16) = l at *
  generalize nextN (a % 10) (b % 16) = n at *
  generalize a % 10 = s at *
  generalize b % 16 = ev at *
  go_enter Try.func5, Try.ntmps5
  go_wp2_with (go_at_call 13; refine (awake_any _).mono ?_; rintro e w1 ⟨rfl, hb⟩)
  go_wp2_with (go_at_call 14; refine (hS _).mono ?_; rintro x w2 ⟨a, c, rfl, hN, hb1⟩)
  have hbb := hb.trans (hb1.mono hb.size)
  have hmx := hN.max
  clear hb hb1 hS e1 e2
  go_loopw [9] (fun i wr => ∃ j m : Nat, j ≤ l.length ∧ i = .int .i64 j ∧ wr = w2.drewN m) (fun i _ => l.length - (intOf i).toNat)
  case atStart => exact ⟨0, 0, by omega, rfl, rfl⟩
  case round =>
    obtain ⟨j, m, hj, rfl, rfl⟩ := hrel
    by_cases hlt : j < l.length
    · obtain ⟨r, rfl, g1⟩ := (hN.drewN m).cell hlt
      have hX := fine_cases (hf _ (List.getElem_mem hlt))
      clear hf
      generalize l[j] = X at *
      obtain ⟨W, hW⟩ : ∃ W, w2.drewN m = W := ⟨_, rfl⟩
      rw [hW] at g1 ⊢
      have hW' := Lib.hid hW
      clear hW
      rcases hX with ⟨rfl, h1, rfl⟩ | ⟨rfl, rfl⟩ | ⟨rfl, rfl⟩ | ⟨rfl, h1⟩ | ⟨rfl, rfl⟩ | ⟨rfl, rfl⟩ | ⟨h1, h2, h3, h4, h5, h6⟩
      · have k1 : ((s : Int) == 9) = false := by simp; omega
        go_wp2_with fail
        go_roundw
        case rel => exact ⟨j + 1, m, by omega, by go_num, hW'.out.symm⟩
        case measure => simp [intOf]; omega
      · skip
        go_wp2_with fail
        go_roundw
        case rel => exact ⟨j + 1, m, by omega, by go_num, hW'.out.symm⟩
        case measure => simp [intOf]; omega
      · skip
        go_wp2_with fail
        go_roundw
        case rel => exact ⟨j + 1, m, by omega, by go_num, hW'.out.symm⟩
        case measure => simp [intOf]; omega
      · have k1 : ¬ ((n : Int) < 6) := by omega
        go_wp2_with fail
        go_roundw
        case rel => exact ⟨j + 1, m, by omega, by go_num, hW'.out.symm⟩
        case measure => simp [intOf]; omega
      · skip
        go_wp2_with fail
        go_roundw
        case rel => exact ⟨j + 1, m, by omega, by go_num, hW'.out.symm⟩
        case measure => simp [intOf]; omega
      · skip
        go_wp2_with fail
        go_roundw
        case rel => exact ⟨j + 1, m, by omega, by go_num, hW'.out.symm⟩
        case measure => simp [intOf]; omega
      · have k0 : ((X : Int) == 0) = false := by simp; omega
        have k1 : ((X : Int) == 1) = false := by simp; omega
        have k2 : ((X : Int) == 12) = false := by simp; omega
        have k3 : ((X : Int) == 6) = false := by simp; omega
        have k4 : ((X : Int) == 9) = false := by simp; omega
        have k5 : ¬ ((X : Int) < 0) := by omega
        have k6 : ¬ ((12 : Int) < (X : Int)) := by omega
        go_wp2_with fail
        go_roundw
        case rel => exact ⟨j + 1, m, by omega, by go_num, hW'.out.symm⟩
        case measure => simp [intOf]; omega
    · go_wp2_with fail
      go_ret
      exact ⟨rfl, below_drewN hbb _⟩
theorem tables_any (a b : Int) (w : World) (ha : (Lit.int .u8 a).wf = true) (hb : (Lit.int .u8 b).wf = true) : Calls Try.prog 5 #[.int .u8 a, .int .u8 b] w fun e w' => e = .returned (.bool true) ∧ Below w.heap.size w w' := by
  obtain ⟨a, rfl, ha'⟩ := nat_u8 ha
  obtain ⟨b, rfl, hb'⟩ := nat_u8 hb
  exact tables_at a b ha' hb' w
end Go.Proofs.Ytjcigaonadkhkaa
