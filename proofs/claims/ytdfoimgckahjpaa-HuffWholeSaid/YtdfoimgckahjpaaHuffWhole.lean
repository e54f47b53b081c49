/-
  The walk of whole and Code. No conditions.
-/
import Derived.Test.YtdfoimgckahjpaaHuffHeap
import Derived.Test.YtdfoimgckahjpaaBitsPlain
namespace Go.Proofs.Ytdfoimgckahjpaa
open Go.RowKit
theorem sumK_le (L : List Nat) (h : ∀ n, cnt L n ≤ 320) : ∀ n, sumK L n ≤ n * (320 * 32768)
  | 0 => Nat.le_refl _
  | n + 1 => by
    have h1 := sumK_le L h n
    have h2 : cnt L (n + 1) * 2 ^ (15 - (n + 1)) ≤ 320 * 32768 := Nat.mul_le_mul (h _) (Nat.pow_le_pow_right (by decide) (by omega : 15 - (n + 1) ≤ 15))
    rw [sumK, Nat.add_mul]; omega
theorem cnt_le {L : List Nat} (h : L.length ≤ 320) (n : Nat) : cnt L n ≤ 320 := by
  unfold cnt
  split
  · omega
  · exact Nat.le_trans List.count_le_length h
theorem ord_len_le (L : List Nat) (h : ∀ n, cnt L n ≤ 320) : ∀ n, (ord L n).length ≤ n * 320
  | 0 => Nat.le_refl _
  | n + 1 => by
    have h1 := ord_len_le L h n
    have h2 := h (n + 1)
    rw [ord_length, Nat.add_mul]; omega
set_option maxHeartbeats 1000000 in
theorem whole_any {b : Nat} {lv cv ov : Value} {L : List Nat} {w : World} (h : Blk w b (tabV lv cv ov (cnt L)) 84) (h3 : L.length ≤ 320) :
    Calls Try.prog 53 #[.pointer (some ⟨b, 0, none⟩)] w fun e w' => e = .returned (.bool (wholeB L)) ∧ ∃ m, w' = w.drewN m := by
  have hc := fun n => cnt_le h3 n
  have hs := sumK_le L hc
  have ho := ord_len_le L hc
  go_enter Try.func53, Try.ntmps53
  go_wp2_with fail
  go_loopw [3, 4, 5] (fun s t i wr => ∃ k m : Nat, k ≤ 15 ∧ s = .int .i64 (sumK L k : Nat) ∧ t = .int .i64 ((ord L k).length : Nat) ∧ i = .int .i64 ((k + 1 : Nat) : Int) ∧ wr = w.drewN m) (fun _ _ i _ => 16 - (intOf i).toNat)
  case atStart => exact ⟨0, 0, by omega, rfl, rfl, rfl, rfl⟩
  case round =>
    obtain ⟨k, m, hk, rfl, rfl, rfl, rfl⟩ := hrel
    have s1 := hs k
    have o1 := ho k
    have c1 := hc (k + 1)
    by_cases hlt : k + 1 ≤ 15
    · have g := (h.below (below_drewN (Below.refl _ _) m) h.lt).cell (3 + (k + 1))
      rw [tabV_count _ _ _ _ (by omega)] at g
      unfold nv at g
      have e1 : sumK L (k + 1) = sumK L k + cnt L (k + 1) * 2 ^ (15 - (k + 1)) := rfl
      have e2 := ord_length L k
      have h2 : (2 : Nat) ^ (15 - (k + 1)) ≤ 32768 := Nat.pow_le_pow_right (by decide) (by omega : 15 - (k + 1) ≤ 15)
      have h4 : cnt L (k + 1) * 2 ^ (15 - (k + 1)) ≤ 320 * 32768 := Nat.mul_le_mul c1 h2
      clear hs ho hc h
      generalize hq : k + 1 = q at *
      generalize hS' : sumK L q = S' at *
      generalize hO' : (ord L q).length = O' at *
      generalize sumK L k = S at *
      generalize (ord L k).length = O at *
      generalize cnt L q = C at *
      have h5 : (C : Int) * 2 ^ (15 - q) = ((C * 2 ^ (15 - q) : Nat) : Int) := by simp
      generalize C * 2 ^ (15 - q) = D at *
      have hS2 := Lib.hid hS'
      have hO2 := Lib.hid hO'
      clear hS' hO' h2
      go_wp2_with fail
      go_roundw
      case rel =>
        refine ⟨q, m, by omega, ?_, ?_, by go_num, rfl⟩
        · rw [hS2.out, e1]; simp
        · rw [hO2.out, e2]; simp
      case measure => simp [intOf]; omega
    · obtain rfl : k = 15 := by omega
      have g := (h.below (below_drewN (Below.refl _ _) m) h.lt).cell 4
      have g4 : (tabV lv cv ov (cnt L))[4]? = some (nv (cnt L 1)) := rfl
      rw [g4] at g
      unfold nv at g
      have hw : wholeB L = (decide (sumK L 15 = 32768) || (decide ((ord L 15).length = 0) || (decide ((ord L 15).length = 1) && decide (cnt L 1 = 1)))) := rfl
      have hw2 := Lib.hid hw
      clear hs ho h hw
      have c1 := hc 1
      clear hc g4
      generalize sumK L 15 = S at *
      generalize (ord L 15).length = O at *
      generalize cnt L 1 = C at *
      by_cases h1 : S = 32768
      · subst h1
        go_wp2_with fail
        go_ret
        exact ⟨ret_bool (by rw [hw2.out]; simp), m, rfl⟩
      · have e1 : ((S : Int) == 32768) = false := by simp; omega
        by_cases h2 : O = 0
        · subst h2
          go_wp2_with fail
          go_ret
          exact ⟨ret_bool (by rw [hw2.out]; simp), m, rfl⟩
        · have e2 : ((O : Int) == 0) = false := by simp; omega
          by_cases h3 : O = 1
          · subst h3
            go_wp2_with fail
            go_ret
            have e4 : ((C : Int) == 1) = decide (C = 1) := by rw [Bool.eq_iff_iff]; simp; omega
            exact ⟨ret_bool (by rw [hw2.out]; simp [h1, e4]), m, rfl⟩
          · have e3 : ((O : Int) == 1) = false := by simp; omega
            go_wp2_with fail
            go_ret
            exact ⟨ret_bool (by rw [hw2.out]; simp [h1, h2, h3]), m, rfl⟩
/-- a table's cells that Code reads -/
theorem code_in {b : Nat} {L : List Nat} {w : World} (h : Tb w b L) {i : Nat} (hi : i < L.length) :
    Calls Try.prog 44 #[.pointer (some ⟨b, 0, none⟩), .int .i64 (i : Int)] w fun e w' => e = .returned (.tuple #[nv (codeOf L i), nv (L.getD i 0)]) ∧ ∃ m, w' = w.drewN m := by
  obtain ⟨B, la, lc, ca, cc, oa, oc, hb, hl, hc, _⟩ := h.ex
  have hf := h.few
  have h15 := h.le15 i hi
  obtain ⟨r, rfl, g1⟩ := hl.cell hi
  obtain ⟨q, rfl, g2⟩ := hc.cell (show i < (codesOf L).length by rw [codesOf_length]; exact hi)
  rw [codesOf_getD hi] at g2
  have g3 := hb.cell 1
  have g4 := hb.cell 2
  have t1 : ∀ lv cv ov c, (tabV lv cv ov c)[1]? = some lv := fun _ _ _ _ => rfl
  have t2 : ∀ lv cv ov c, (tabV lv cv ov c)[2]? = some cv := fun _ _ _ _ => rfl
  rw [t1] at g3
  rw [t2] at g4
  have hc0 : L.getD i 0 = 0 → codeOf L i = 0 := fun e => by unfold codeOf; rw [if_pos e]
  unfold nv at *
  clear hb hl hc h t1 t2
  generalize L.getD i 0 = N at *
  generalize codeOf L i = C at *
  generalize L.length = len at *
  by_cases h0 : N = 0
  · obtain rfl := hc0 h0
    subst h0
    go_enter Try.func44, Try.ntmps44
    go_wp2_with fail
    go_ret2
    exact ⟨rfl, 0, rfl⟩
  · have e1 : ((N : Int) == 0) = false := by simp; omega
    clear hc0
    go_enter Try.func44, Try.ntmps44
    go_wp2_with fail
    go_quiet (fail)
    go_wp2_with fail
    go_ret2
    exact ⟨rfl, _, rfl⟩
theorem code_end {b : Nat} {L : List Nat} {w : World} (h : Tb w b L) :
    Calls Try.prog 44 #[.pointer (some ⟨b, 0, none⟩), .int .i64 (L.length : Int)] w fun e w' => e = .returned (.tuple #[nv 0, nv 0]) ∧ ∃ m, w' = w.drewN m := by
  obtain ⟨B, la, lc, ca, cc, oa, oc, hb, hl, hc, _⟩ := h.ex
  have hf := h.few
  have g3 := hb.cell 1
  have t1 : ∀ lv cv ov c, (tabV lv cv ov c)[1]? = some lv := fun _ _ _ _ => rfl
  rw [t1] at g3
  clear hb hl hc h t1
  generalize L.length = len at *
  go_enter Try.func44, Try.ntmps44
  go_wp2_with fail
  go_ret2
  exact ⟨rfl, 0, rfl⟩
end Go.Proofs.Ytdfoimgckahjpaa
