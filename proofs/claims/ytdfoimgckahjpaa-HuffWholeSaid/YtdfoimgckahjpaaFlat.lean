/-
  flat. No conditions.
-/
import Derived.Test.YtdfoimgckahjpaaUsed
namespace Go.Proofs.Ytdfoimgckahjpaa
open Go.RowKit
/-- the length that flat gives to the i-th of m symbols -/
def flatV (m k i : Nat) : Nat := if m - (2 ^ k - m) ≤ i ∧ 1 < k then k - 1 else k
/-- what flat writes -/
def flatO (m k : Nat) (Z O : List Nat) : Nat → List Nat
  | 0 => O
  | i + 1 => (flatO m k Z O i).set (Z.getD i 0) (flatV m k i)
theorem flatO_length (m k : Nat) (Z O : List Nat) : ∀ i, (flatO m k Z O i).length = O.length
  | 0 => rfl
  | i + 1 => by rw [flatO, List.length_set]; exact flatO_length m k Z O i
/-- the least power of two that is not less: its exponent is 9 at most -/
theorem pow_le9 {m k : Nat} (hm : m ≤ 320) (h : 2 ^ k < m) : k + 1 ≤ 9 := by
  rcases Nat.lt_or_ge k 9 with e | e
  · exact e
  · have : 2 ^ 9 ≤ 2 ^ k := Nat.pow_le_pow_right (by decide) e
    omega
set_option maxRecDepth 100000 in
set_option maxHeartbeats 4000000 in
theorem flat_any {w : World} {B g n c : Nat} {la : Option Addr} {lc : Nat} {Z O : List Nat} (hZ : Nums w B (.slice la Z.length lc) Z) (hO : Nums w B (.slice (some ⟨g, 0, none⟩) n c) O) (hne : ∀ x, la = some x → x.block ≠ g) (hz : ∀ x ∈ Z, x < n) (hn : n ≤ 320) (hl : Z.length ≤ 320) (h1 : 1 ≤ Z.length) :
    Calls Try.prog 62 #[.slice la Z.length lc, .slice (some ⟨g, 0, none⟩) n c] w fun e w' => e = .returned (.tuple #[]) ∧ (∃ k, 1 ≤ k ∧ k ≤ 9 ∧ (k = 1 ∨ 2 ^ (k - 1) < Z.length) ∧ Z.length ≤ 2 ^ k ∧ Nums w' B (.slice (some ⟨g, 0, none⟩) n c) (flatO Z.length k Z O Z.length)) ∧ ButOf (fun x => x = g) w w' := by
  obtain ⟨m, hm⟩ : ∃ m, Z.length = m := ⟨_, rfl⟩
  rw [hm] at hZ hl h1 ⊢
  have hmI : (m : Int) ≤ 320 := by omega
  have hnI : (n : Int) ≤ 320 := by omega
  obtain ⟨w0, hw0⟩ : ∃ x, x = w := ⟨_, rfl⟩
  rw [← hw0] at hZ hO ⊢
  clear hw0
  go_enter Try.func62, Try.ntmps62
  go_wp2_with fail
  go_loopw [4] (fun v wr => ∃ k : Nat, 1 ≤ k ∧ k ≤ 9 ∧ v = .int .i64 (k : Nat) ∧ Hid (k = 1 ∨ 2 ^ (k - 1) < m) ∧ w0 = wr) (fun v _ => 9 - (intOf v).toNat)
  case atStart => exact ⟨1, Nat.le_refl _, by omega, rfl, Lib.hid (Or.inl rfl), rfl⟩
  case round =>
    obtain ⟨k, hk1, hk2, rfl, hk3, hwr⟩ := hrel
    subst hwr
    have hk1I : (1 : Int) ≤ (k : Int) := by omega
    have hk2I : (k : Int) ≤ 9 := by omega
    have hPN : 2 ^ k ≤ 2 ^ 9 := Nat.pow_le_pow_right (by decide) hk2
    have hP : (2 : Int) ^ k = ((2 ^ k : Nat) : Int) := by simp
    have h9 := pow_le9 (m := m) (k := k) hl
    have hnx : 2 ^ k < m → Hid (k + 1 = 1 ∨ 2 ^ (k + 1 - 1) < m) := fun h => Lib.hid (Or.inr h)
    have hP2 : k = 1 ∨ 2 ^ k < 2 * m := by
      rcases hk3.out with e | e
      · exact .inl e
      · obtain ⟨j, rfl⟩ : ∃ j, k = j + 1 := ⟨k - 1, by omega⟩
        right; rw [Nat.add_sub_cancel] at e; rw [Nat.pow_succ]; omega
    have hP3 : k = 1 → 2 ^ k = 2 := fun e => by rw [e]
    have hfl : ∀ i, flatV m k i = if m - (2 ^ k - m) ≤ i ∧ 1 < k then k - 1 else k := fun _ => rfl
    obtain ⟨P, hPe⟩ : ∃ P, 2 ^ k = P := ⟨_, rfl⟩
    rw [hPe] at hPN hP h9 hnx hP2 hP3
    simp only [hPe] at hfl
    have hPI : (P : Int) ≤ 512 := by omega
    by_cases hlt : P < m
    · have hltI : (P : Int) < (m : Int) := by omega
      have hk8 := h9 hlt
      have hn2 := hnx hlt
      clear h9 hnx hP2 hP3 hfl
      replace hPe := Lib.hid hPe
      go_wp2_with fail
      go_roundw
      case rel => exact ⟨k + 1, by omega, hk8, by go_num, hn2, by first | rfl | trivial⟩
      case measure => simp [intOf]; omega
    · have hltI : ¬ ((P : Int) < (m : Int)) := by omega
      obtain ⟨s, hs⟩ : ∃ s, P - m = s := ⟨_, rfl⟩
      obtain ⟨q, hq⟩ : ∃ q, m - s = q := ⟨_, rfl⟩
      have hsI : (P : Int) - (m : Int) = (s : Int) := by omega
      have hsm : s ≤ m := by omega
      have hqI : (m : Int) - (s : Int) = (q : Int) := by omega
      rw [hs] at hfl
      simp only [hq] at hfl
      have hfl := Lib.hid hfl
      have hkk : Hid ((k = 1 ∨ 2 ^ (k - 1) < m) ∧ m ≤ 2 ^ k) := Lib.hid ⟨hk3.out, by omega⟩
      have hsI2 : (s : Int) ≤ 320 := by omega
      have hqI2 : (q : Int) ≤ 320 := by omega
      clear h9 hnx hP2 hP3 hk3
      replace hPe := Lib.hid hPe
      replace hs := Lib.hid hs
      replace hq := Lib.hid hq
      go_wp2_with fail
      go_loopw [22] (fun v wr => ∃ i : Nat, i ≤ m ∧ v = .int .i64 (i : Nat) ∧ Nums wr B (.slice (some ⟨g, 0, none⟩) n c) (flatO m k Z O i) ∧ ButOf (fun x => x = g) w0 wr) (fun v _ => m - (intOf v).toNat)
      case atStart => exact ⟨0, Nat.zero_le _, rfl, hO, ButOf.refl _ _⟩
      case round =>
        obtain ⟨i, him, rfl, hN, hB⟩ := hrel
        by_cases hlt2 : i < m
        · have hi2 : (i : Int) < (m : Int) := by omega
          have hZ2 := hZ.but hB (fun x hx e => by
            cases la with
            | none => simp [Value.ownBlock] at hx
            | some ad => exact hne ad rfl ((Option.some.inj hx).trans e))
          obtain ⟨rz, hrz, cz⟩ := hZ2.cell (j := i) (by omega)
          cases hrz
          replace cz : wr.cell? ⟨rz, i, none⟩ = some (.int .i64 (Z.getD i 0 : Nat)) := cz
          have hZl : Z.getD i 0 < n := hz _ (n_getD_mem (by omega))
          have hgo : (flatO m k Z O i).length = n := by rw [flatO_length]; exact hO.len.symm
          have hfs : flatO m k Z O (i + 1) = (flatO m k Z O i).set (Z.getD i 0) (flatV m k i) := rfl
          rw [hfl.out] at hfs
          generalize Z.getD i 0 = x at *
          generalize flatO m k Z O i = F at *
          have hxI : (x : Int) < (n : Int) := by omega
          have c1 := hN.at_ (k := x) (by omega)
          obtain ⟨cs1, hblk⟩ := hN.sput
          have f1 := hblk.free x none
          have hN1 := hN.set (k := x) (by omega) k
          have hB1 := hB.set (b := g) (o := x) (.int .i64 (k : Nat)) (.inl rfl)
          by_cases hg : q ≤ i ∧ 1 < k
          · obtain ⟨hg1, hg2⟩ := hg
            have hg1I : (q : Int) ≤ (i : Int) := by omega
            have hg2I : (1 : Int) < (k : Int) := by omega
            rw [if_pos ⟨hg1, hg2⟩] at hfs
            obtain ⟨k1, hk1e⟩ : ∃ k1, k - 1 = k1 := ⟨_, rfl⟩
            have hk1I2 : (k : Int) - 1 = (k1 : Int) := by omega
            rw [hk1e] at hfs
            have hN2 := hN1.set (k := x) (by rw [List.length_set]; omega) k1
            rw [List.set_set, ← hfs] at hN2
            have hB2 := hB1.set (b := g) (o := x) (.int .i64 (k1 : Nat)) (.inl rfl)
            have c2 := hN1.at_ (k := x) (by rw [List.length_set]; omega)
            obtain ⟨cs2, hblk2⟩ := hN1.sput
            have f2 := hblk2.free x none
            replace hk1e := Lib.hid hk1e
            clear hblk hblk2 hfs hN hN1 hZ2 hB hB1
            go_wp2_with fail
            go_roundw
            case rel => exact ⟨i + 1, by omega, by go_num, hN2, hB2⟩
            case measure => simp [intOf]; omega
          · have hgI : ¬ ((q : Int) ≤ (i : Int)) ∨ ¬ ((1 : Int) < (k : Int)) := by omega
            rw [if_neg hg] at hfs
            rw [← hfs] at hN1
            clear hblk hfs hN hZ2 hB hg
            by_cases hg1 : q ≤ i
            · have hg1I : (q : Int) ≤ (i : Int) := by omega
              have hg2I : ¬ ((1 : Int) < (k : Int)) := by omega
              clear hgI
              go_wp2_with fail
              go_roundw
              case rel => exact ⟨i + 1, by omega, by go_num, hN1, hB1⟩
              case measure => simp [intOf]; omega
            · have hg1I : ¬ ((q : Int) ≤ (i : Int)) := by omega
              clear hgI
              go_wp2_with fail
              go_roundw
              case rel => exact ⟨i + 1, by omega, by go_num, hN1, hB1⟩
              case measure => simp [intOf]; omega
        · obtain rfl : i = m := by omega
          clear hZ hO
          go_wp2_with fail
          go_end0
          exact ⟨rfl, ⟨k, hk1, hk2, hkk.out.1, hkk.out.2, hN⟩, hB⟩
end Go.Proofs.Ytdfoimgckahjpaa
