/-
  stableCmpFunc of slices.SortStableFunc at []int. No conditions.
-/
import Derived.Test.YtdfoimgckahjpaaSortMerge
namespace Go.Proofs.Ytdfoimgckahjpaa
open Go.RowKit
/-- in blocks of s, each ascending -/
def Blks (cs : Nat → Nat) (s : Nat) (L : List Nat) : Prop := ∀ k, Asc cs ((L.drop (k * s)).take s)
section
variable {cs : Nat → Nat} {s t m : Nat} {L P Z Q X : List Nat}
theorem Blks.nil : Blks cs s [] := fun k => by rw [List.drop_nil, List.take_nil]; exact List.Pairwise.nil
theorem Blks.drop (h : Blks cs s L) (j : Nat) : Blks cs s (L.drop (j * s)) := fun k => by
  rw [List.drop_drop, ← Nat.add_mul]; exact h (j + k)
theorem Blks.snoc (h : Blks cs t P) (hl : P.length = m * t) (hz : Asc cs Z) (hz2 : Z.length ≤ t) : Blks cs t (P ++ Z) := fun k => by
  rcases Nat.lt_trichotomy k m with e | e | e
  · have h1 : k * t + t ≤ P.length := by rw [hl, ← Nat.succ_mul]; exact Nat.mul_le_mul_right t e
    rw [List.drop_append_of_le_length (by omega), List.take_append_of_le_length (by rw [List.length_drop]; omega)]
    exact h k
  · subst e; rw [← hl, List.drop_left, List.take_of_length_le hz2]; exact hz
  · have h1 : m * t + t ≤ k * t := by rw [← Nat.succ_mul]; exact Nat.mul_le_mul_right t e
    rw [List.drop_of_length_le (by rw [List.length_append]; omega), List.take_nil]; exact List.Pairwise.nil
theorem Blks.whole (h : Blks cs s L) (hl : L.length ≤ s) : Asc cs L := by
  have := h 0
  rwa [Nat.zero_mul, List.drop_zero, List.take_of_length_le hl] at this
theorem Blks.first (h : Blks cs s L) : Asc cs (L.take s) := by
  have := h 0
  rwa [Nat.zero_mul, List.drop_zero] at this
theorem Blks.second (h : Blks cs s L) : Asc cs ((L.drop s).take s) := by
  have := h 1
  rwa [Nat.one_mul] at this
theorem halves (ht : 2 * s = t) : Q.take s ++ (Q.drop s).take s ++ Q.drop t = Q := by
  rw [List.append_assoc, ← ht, Nat.two_mul, ← List.drop_drop, List.take_append_drop, List.take_append_drop]
theorem perm_mid {U U' R : List Nat} (hp : U'.Perm U) (hq : U ++ R = Q) (hx : (P ++ Q).Perm X) : (P ++ U' ++ R).Perm X := by
  refine List.Perm.trans ?_ hx
  rw [List.append_assoc, ← hq]
  exact List.Perm.append_left P (hp.append_right R)
end
set_option maxRecDepth 100000 in
set_option maxHeartbeats 4000000 in
theorem stable_any {w : World} {B p g n c : Nat} {ca : Option Addr} {mm cc : Nat} {cs : Nat → Nat} {X : List Nat} (hk : Key w p g ca mm cc cs) (h : Nums w B (.slice (some ⟨g, 0, none⟩) n c) X) (hlt : ∀ x ∈ X, x < mm) (hn : n ≤ 1000) :
    Calls Try.prog 69 #[.slice (some ⟨g, 0, none⟩) n c, .int .i64 (n : Nat), usedV p] w fun e w' => e = .returned (.tuple #[]) ∧ (∃ Z, Z.Perm X ∧ Asc cs Z ∧ Nums w' B (.slice (some ⟨g, 0, none⟩) n c) Z) ∧ ButOf (fun x => x = g) w w' := by
  have hnI : (n : Int) ≤ 1000 := by omega
  have hltH := Lib.hid hlt
  clear hlt
  unfold usedV
  go_enter Try.func69, Try.ntmps69
  go_wp2_with fail
  go_loopw [7, 8] (fun v7 v8 wr => ∃ a b : Nat, b = a + 20 ∧ a ≤ n ∧ v7 = .int .i64 a ∧ v8 = .int .i64 b ∧ ∃ P Q, Hid ((∃ k, a = k * 20) ∧ P.length = a ∧ Blks cs 20 P ∧ (P ++ Q).Perm X) ∧ Nums wr B (.slice (some ⟨g, 0, none⟩) n c) (P ++ Q) ∧ ButOf (fun x => x = g) w wr) (fun v7 _ _ => n - (intOf v7).toNat)
  case atStart => exact ⟨0, 20, rfl, Nat.zero_le _, rfl, rfl, [], X, Lib.hid ⟨⟨0, rfl⟩, rfl, Blks.nil, List.Perm.refl _⟩, h, ButOf.refl _ _⟩
  case round =>
    obtain ⟨a, b, hb, han, rfl, rfl, P, Q, hPQ, hN, hB⟩ := hrel
    have haI : (a : Int) ≤ (n : Int) := by omega
    have hbI : (b : Int) ≤ 1020 := by omega
    have hka := hk.but hB
    obtain ⟨⟨k, hk20⟩, hPl, hPb, hPp⟩ := hPQ.out
    have hl := hN.len
    rw [List.length_append] at hl
    have hQlt : ∀ x ∈ Q, x < mm := fun x hx => hltH.out x (hPp.mem_iff.1 (List.mem_append_right _ hx))
    by_cases hbn : b ≤ n
    · have hbnI : (b : Int) ≤ (n : Int) := by omega
      obtain ⟨b2, hb2⟩ : ∃ b2, b + 20 = b2 := ⟨_, rfl⟩
      have hb2I : (b : Int) + 20 = (b2 : Int) := by omega
      have hb2n : (b2 : Int) ≤ 1020 := by omega
      have hms : n - (intOf (.int .i64 (b : Int))).toNat < n - (intOf (.int .i64 (a : Int))).toNat := by simp [intOf]; omega
      have hins := Lib.hid (insSort_any (X := P) (U := Q.take 20) (Y := Q.drop 20) (a := a) (b := b) hka (by rw [List.append_assoc, List.take_append_drop]; exact hN) (fun x hx => hQlt x (List.mem_of_mem_take hx)) hPl (by rw [List.length_take]; omega) hn)
      have hnx : ∀ U', U'.Perm (Q.take 20) → Asc cs U' → Hid ((∃ k, b = k * 20) ∧ (P ++ U').length = b ∧ Blks cs 20 (P ++ U') ∧ (P ++ U' ++ Q.drop 20).Perm X) := fun U' hp hz => by
        have hl' : U'.length = 20 := by rw [hp.length_eq, List.length_take]; omega
        exact Lib.hid ⟨⟨k + 1, by omega⟩, by rw [List.length_append]; omega, hPb.snoc (m := k) (by omega) hz (by omega), perm_mid hp (List.take_append_drop _ _) hPp⟩
      replace hnx := Lib.hid hnx
      replace hms := Lib.hid hms
      replace hb2 := Lib.hid hb2.symm
      clear hPQ hPl hPb hPp hQlt hk20 hl hka hN hb
      go_wp2_with (go_at_call 73; refine hins.out.mono ?_; rintro e w5 ⟨rfl, ⟨U', hp, hz, hN5⟩, hB5⟩)
      go_roundw
      case rel => exact ⟨b, b2, hb2.out, hbn, rfl, rfl, P ++ U', Q.drop 20, hnx.out _ hp hz, hN5, hB.trans hB5⟩
      case measure => exact hms.out
    · have hbnI : ¬ ((b : Int) ≤ (n : Int)) := by omega
      have hins := Lib.hid (insSort_any (X := P) (U := Q) (Y := []) (a := a) (b := n) hka (by rw [List.append_nil]; exact hN) hQlt hPl (by omega) hn)
      have hnx : ∀ U', U'.Perm Q → Asc cs U' → Hid (Blks cs 20 (P ++ U' ++ []) ∧ (P ++ U' ++ []).Perm X) := fun U' hp hz =>
        Lib.hid ⟨by rw [List.append_nil]; exact hPb.snoc (m := k) (by omega) hz (by rw [hp.length_eq]; omega), perm_mid hp (List.append_nil _) hPp⟩
      replace hnx := Lib.hid hnx
      clear hPQ hPl hPb hPp hQlt hk20 hl hka hN hb hbn
      go_wp2_with (go_at_call 73; refine hins.out.mono ?_; rintro e w5 ⟨rfl, ⟨U', hp, hz, hN5⟩, hB5⟩)
      go_loopw [6, 7, 8, 9] (fun v6 _ _ _ wr2 => ∃ (s : Nat) (L : List Nat), 20 ≤ s ∧ s ≤ 2000 ∧ v6 = .int .i64 s ∧ Hid (Blks cs s L ∧ L.Perm X) ∧ Nums wr2 B (.slice (some ⟨g, 0, none⟩) n c) L ∧ ButOf (fun x => x = g) w wr2) (fun v6 _ _ _ _ => n - (intOf v6).toNat)
      case atStart => exact ⟨20, _, Nat.le_refl _, by omega, rfl, hnx.out _ hp hz, hN5, hB.trans hB5⟩
      case round =>
        clear hins hnx hN5 hB5 hB hbnI haI hbI
        obtain ⟨s, L, hs20, hs2, rfl, hL, hN, hB⟩ := hrel
        have hs2I : (s : Int) ≤ 2000 := by omega
        by_cases hsn : s < n
        · have hsI : (s : Int) < (n : Int) := by omega
          obtain ⟨t, ht⟩ : ∃ t, 2 * s = t := ⟨_, rfl⟩
          have htI : 2 * (s : Int) = (t : Int) := by omega
          have htI2 : (s : Int) * 2 = (t : Int) := by omega
          have htn : (t : Int) ≤ 2000 := by omega
          have htn2 : t ≤ 2000 := by omega
          have hmsO : n - (intOf (.int .i64 (t : Int))).toNat < n - (intOf (.int .i64 (s : Int))).toNat := by simp [intOf]; omega
          replace hmsO := Lib.hid hmsO
          have ht20 : 20 ≤ t := by omega
          have hst : Hid ((∃ k, 0 = k * t) ∧ ([] : List Nat).length = 0 ∧ Blks cs t [] ∧ Blks cs s L ∧ ([] ++ L).Perm X) := Lib.hid ⟨⟨0, (Nat.zero_mul _).symm⟩, rfl, Blks.nil, hL.out.1, hL.out.2⟩
          have ht0 : t = 0 + t := (Nat.zero_add t).symm
          replace ht0 := Lib.hid ht0
          replace ht := Lib.hid ht
          go_wp2_with fail
          go_loopw [7, 8] (fun v7 v8 wr3 => ∃ a b : Nat, b = a + t ∧ a ≤ n ∧ v7 = .int .i64 a ∧ v8 = .int .i64 b ∧ ∃ P Q, Hid ((∃ k, a = k * t) ∧ P.length = a ∧ Blks cs t P ∧ Blks cs s Q ∧ (P ++ Q).Perm X) ∧ Nums wr3 B (.slice (some ⟨g, 0, none⟩) n c) (P ++ Q) ∧ ButOf (fun x => x = g) w wr3) (fun v7 _ _ => n - (intOf v7).toNat)
          case atStart => exact ⟨0, t, ht0.out, Nat.zero_le _, rfl, rfl, [], L, hst, hN, hB⟩
          case round =>
            clear hst hN hB hL ht0
            obtain ⟨a, b, hb, han, rfl, rfl, P, Q, hPQ, hN, hB⟩ := hrel
            have haI : (a : Int) ≤ (n : Int) := by omega
            have hbI : (b : Int) ≤ 3000 := by omega
            obtain ⟨m, hm⟩ : ∃ m, a + s = m := ⟨_, rfl⟩
            have hmI : (a : Int) + (s : Int) = (m : Int) := by omega
            have hmI2 : (m : Int) ≤ 3000 := by omega
            have hka := hk.but hB
            obtain ⟨⟨k, hkt⟩, hPl, hPb, hQb, hPp⟩ := hPQ.out
            have hl := hN.len
            rw [List.length_append] at hl
            have hQlt : ∀ x ∈ Q, x < mm := fun x hx => hltH.out x (hPp.mem_iff.1 (List.mem_append_right _ hx))
            have ht2 := ht.out
            by_cases hbn : b ≤ n
            · have hbnI : (b : Int) ≤ (n : Int) := by omega
              obtain ⟨b2, hb2⟩ : ∃ b2, b + t = b2 := ⟨_, rfl⟩
              have hb2I : (b : Int) + (t : Int) = (b2 : Int) := by omega
              have hb2n : (b2 : Int) ≤ 3000 := by omega
              have hms : n - (intOf (.int .i64 (b : Int))).toNat < n - (intOf (.int .i64 (a : Int))).toNat := by simp [intOf]; omega
              have hsym := Lib.hid (symMerge_any 3000 (X := P) (U := Q.take s) (V := (Q.drop s).take s) (Y := Q.drop t) (a := a) (m := m) (b := b) (by simp only [List.length_take, List.length_drop]; omega) hka (by rw [List.append_assoc, List.append_assoc, ← List.append_assoc (Q.take s), halves ht2]; exact hN) (fun x hx => hQlt x (by rw [← halves (Q := Q) ht2]; exact List.mem_append_left _ hx)) hQb.first hQb.second hPl (by rw [List.length_take]; omega) (by rw [List.length_take, List.length_drop]; omega) (by rw [List.length_take]; omega) (by rw [List.length_take, List.length_drop]; omega) hn)
              have hnx : ∀ Z, Z.Perm (Q.take s ++ (Q.drop s).take s) → Asc cs Z → Hid ((∃ k, b = k * t) ∧ (P ++ Z).length = b ∧ Blks cs t (P ++ Z) ∧ Blks cs s (Q.drop t) ∧ (P ++ Z ++ Q.drop t).Perm X) := fun Z hp hz => by
                have hl' : Z.length = t := by rw [hp.length_eq]; simp only [List.length_append, List.length_take, List.length_drop]; omega
                exact Lib.hid ⟨⟨k + 1, by rw [Nat.succ_mul]; omega⟩, by rw [List.length_append]; omega, hPb.snoc (m := k) (by omega) hz (by omega), by rw [← ht2]; exact hQb.drop 2, perm_mid hp (halves ht2) hPp⟩
              replace hnx := Lib.hid hnx
              replace hms := Lib.hid hms
              replace hb2 := Lib.hid hb2.symm
              clear hPQ hPl hPb hQb hPp hQlt hkt hl hka hN hb ht2 hm
              go_wp2_with (go_at_call 74; refine hsym.out.mono ?_; rintro e w5 ⟨rfl, ⟨Z, hp, hz, hN5⟩, hB5⟩)
              go_roundw
              case rel => exact ⟨b, b2, hb2.out, hbn, rfl, rfl, P ++ Z, Q.drop t, hnx.out _ hp hz, hN5, hB.trans hB5⟩
              case measure => exact hms.out
            · have hbnI : ¬ ((b : Int) ≤ (n : Int)) := by omega
              by_cases hmn : m < n
              · have hmnI : (m : Int) < (n : Int) := by omega
                have hsym := Lib.hid (symMerge_any 3000 (X := P) (U := Q.take s) (V := Q.drop s) (Y := []) (a := a) (m := m) (b := n) (by simp only [List.length_take, List.length_drop]; omega) hka (by rw [List.append_nil, List.append_assoc, List.take_append_drop]; exact hN) (fun x hx => hQlt x (by rwa [List.take_append_drop] at hx)) hQb.first (by have h3 := hQb.second; rwa [List.take_of_length_le (by rw [List.length_drop]; omega)] at h3) hPl (by rw [List.length_take]; omega) (by rw [List.length_drop]; omega) (by rw [List.length_take]; omega) (by rw [List.length_drop]; omega) hn)
                have hnx : ∀ Z, Z.Perm (Q.take s ++ Q.drop s) → Asc cs Z → Hid (Blks cs t (P ++ Z ++ []) ∧ (P ++ Z ++ []).Perm X) := fun Z hp hz => by
                  have hl' : Z.length = Q.length := by rw [hp.length_eq, List.take_append_drop]
                  exact Lib.hid ⟨by rw [List.append_nil]; exact hPb.snoc (m := k) (by omega) hz (by omega), perm_mid hp (by rw [List.append_nil, List.take_append_drop]) hPp⟩
                replace hnx := Lib.hid hnx
                clear hPQ hPl hPb hQb hPp hQlt hkt hl hka hN hb ht2 hm hbn hmn
                go_wp2_with (go_at_call 74; refine hsym.out.mono ?_; rintro e w5 ⟨rfl, ⟨Z, hp, hz, hN5⟩, hB5⟩)
                go_roundw
                case rel => exact ⟨t, _, ht20, htn2, rfl, hnx.out _ hp hz, hN5, hB.trans hB5⟩
                case measure => exact hmsO.out
              · have hmnI : ¬ ((m : Int) < (n : Int)) := by omega
                have hnx : Hid (Blks cs t (P ++ Q) ∧ (P ++ Q).Perm X) := Lib.hid ⟨hPb.snoc (m := k) (by omega) (hQb.whole (by omega)) (by omega), hPp⟩
                clear hPQ hPl hPb hQb hPp hQlt hkt hl hka hb ht2 hm hbn hmn
                go_wp2_with fail
                go_roundw
                case rel => exact ⟨t, _, ht20, htn2, rfl, hnx, hN, hB⟩
                case measure => exact hmsO.out
        · have hsI : ¬ ((s : Int) < (n : Int)) := by omega
          have hfin : Asc cs L := hL.out.1.whole (by have := hN.len; omega)
          have hpm := hL.out.2
          go_wp2_with fail
          go_end0
          exact ⟨rfl, ⟨L, hpm, hfin, hN⟩, hB⟩
end Go.Proofs.Ytdfoimgckahjpaa
