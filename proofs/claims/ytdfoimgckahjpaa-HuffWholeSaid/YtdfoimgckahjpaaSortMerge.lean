/-
  symMerge of slices.SortStableFunc at []int. No conditions.
-/
import Derived.Test.YtdfoimgckahjpaaSortSym
namespace Go.Proofs.Ytdfoimgckahjpaa
open Go.RowKit
/-- how the two rows fall apart -/
theorem sym_split {cs : Nat → Nat} {U V : List Nat} {a m b i en : Nat} (hU : Asc cs U) (hV : Asc cs V) (hm : a + U.length = m) (hb : m + V.length = b) (r1 : a ≤ i) (r2 : i ≤ m) (r3 : m ≤ en) (r4 : en ≤ b) (_ : 0 ≤ a)
    (g1 : i = a ∨ en = b ∨ cs (U.getD (i - 1 - a) 0) ≤ cs (V.getD (en - m) 0)) (g2 : i = m ∨ en = m ∨ cs (V.getD (en - 1 - m) 0) ≤ cs (U.getD (i - a) 0)) :
    ∃ U1 U2 V1 V2, U = U1 ++ U2 ∧ V = V1 ++ V2 ∧ U1.length = i - a ∧ U2.length = m - i ∧ V1.length = en - m ∧ V2.length = b - en ∧ Asc cs U1 ∧ Asc cs U2 ∧ Asc cs V1 ∧ Asc cs V2 ∧
      (∀ Z1 Z2 : List Nat, Z1.Perm (U1 ++ V1) → Z2.Perm (U2 ++ V2) → Asc cs Z1 → Asc cs Z2 → Asc cs (Z1 ++ Z2)) ∧ (∀ Z1 Z2 : List Nat, Z1.Perm (U1 ++ V1) → Z2.Perm (U2 ++ V2) → (Z1 ++ Z2).Perm (U1 ++ U2 ++ (V1 ++ V2))) := by
  have hs : Asc cs (U.take (i - a) ++ U.drop (i - a)) := by rw [List.take_append_drop]; exact hU
  have ht : Asc cs (V.take (en - m) ++ V.drop (en - m)) := by rw [List.take_append_drop]; exact hV
  have c1 : ∀ x ∈ U.take (i - a), ∀ y ∈ V.drop (en - m), cs x ≤ cs y := fun x hx y hy => by
    rcases g1 with e | e | e
    · rw [e, Nat.sub_self] at hx; simp at hx
    · rw [e, List.drop_of_length_le (by omega)] at hy; cases hy
    · by_cases hen : en - m = V.length
      · rw [hen, List.drop_of_length_le (Nat.le_refl _)] at hy; cases hy
      · exact Nat.le_trans (hU.take_le (i := i - a) (by omega) (Or.inr (by rw [show i - a - 1 = i - 1 - a by omega]; exact e)) x hx) (hV.drop_ge (i := en - m) (Or.inr (Nat.le_refl _)) y hy)
  have c2 : ∀ x ∈ V.take (en - m), ∀ y ∈ U.drop (i - a), cs x ≤ cs y := fun x hx y hy => by
    rcases g2 with e | e | e
    · rw [e, List.drop_of_length_le (by omega)] at hy; cases hy
    · rw [e, Nat.sub_self] at hx; simp at hx
    · by_cases hen : i - a = U.length
      · rw [hen, List.drop_of_length_le (Nat.le_refl _)] at hy; cases hy
      · exact Nat.le_trans (hV.take_le (i := en - m) (by omega) (Or.inr (by rw [show en - m - 1 = en - 1 - m by omega]; exact e)) x hx) (hU.drop_ge (i := i - a) (Or.inr (Nat.le_refl _)) y hy)
  refine ⟨U.take (i - a), U.drop (i - a), V.take (en - m), V.drop (en - m), (List.take_append_drop _ _).symm, (List.take_append_drop _ _).symm, by rw [List.length_take]; omega, by rw [List.length_drop]; omega, by rw [List.length_take]; omega, by rw [List.length_drop]; omega, hs.left, hs.right, ht.left, ht.right, fun Z1 Z2 p1 p2 a1 a2 => ?_, fun Z1 Z2 p1 p2 => ?_⟩
  · refine a1.append a2 (fun x hx y hy => ?_)
    rcases List.mem_append.1 (p1.mem_iff.1 hx) with e1 | e1
    · rcases List.mem_append.1 (p2.mem_iff.1 hy) with e2 | e2
      · exact hs.cross x e1 y e2
      · exact c1 x e1 y e2
    · rcases List.mem_append.1 (p2.mem_iff.1 hy) with e2 | e2
      · exact c2 x e1 y e2
      · exact ht.cross x e1 y e2
  · generalize U.take (i - a) = A at *
    generalize U.drop (i - a) = A2 at *
    generalize V.take (en - m) = C at *
    generalize V.drop (en - m) = C2 at *
    refine (p1.append p2).trans ?_
    rw [List.append_assoc, List.append_assoc]
    refine List.Perm.append_left A ?_
    rw [← List.append_assoc, ← List.append_assoc]
    exact List.Perm.append_right C2 List.perm_append_comm
set_option maxRecDepth 100000 in
set_option maxHeartbeats 8000000 in
theorem symGen_any {w : World} {B p g n c a m b : Nat} {ca : Option Addr} {mm cc : Nat} {cs : Nat → Nat} {X U V Y : List Nat}
    (IH : ∀ {w : World} {B : Nat} {X U' V' Y : List Nat} {a m b : Nat}, U'.length + V'.length < U.length + V.length → Key w p g ca mm cc cs → Nums w B (.slice (some ⟨g, 0, none⟩) n c) (X ++ U' ++ V' ++ Y) → (∀ x ∈ U' ++ V', x < mm) → Asc cs U' → Asc cs V' → X.length = a → a + U'.length = m → m + V'.length = b → 0 < U'.length → 0 < V'.length → n ≤ 1000 →
      Calls Try.prog 74 #[.slice (some ⟨g, 0, none⟩) n c, .int .i64 (a : Nat), .int .i64 (m : Nat), .int .i64 (b : Nat), usedV p] w fun e w' => e = .returned (.tuple #[]) ∧ (∃ Z, Z.Perm (U' ++ V') ∧ Asc cs Z ∧ Nums w' B (.slice (some ⟨g, 0, none⟩) n c) (X ++ Z ++ Y)) ∧ ButOf (fun x => x = g) w w')
    (hk : Key w p g ca mm cc cs) (h : Nums w B (.slice (some ⟨g, 0, none⟩) n c) (X ++ U ++ V ++ Y)) (hlt : ∀ x ∈ U ++ V, x < mm) (hU : Asc cs U) (hV : Asc cs V) (ha : X.length = a) (hm : a + U.length = m) (hb : m + V.length = b) (hu : 2 ≤ U.length) (hv : 2 ≤ V.length) (hn : n ≤ 1000) :
    Calls Try.prog 74 #[.slice (some ⟨g, 0, none⟩) n c, .int .i64 (a : Nat), .int .i64 (m : Nat), .int .i64 (b : Nat), usedV p] w fun e w' => e = .returned (.tuple #[]) ∧ (∃ Z, Z.Perm (U ++ V) ∧ Asc cs Z ∧ Nums w' B (.slice (some ⟨g, 0, none⟩) n c) (X ++ Z ++ Y)) ∧ ButOf (fun x => x = g) w w' := by
  have hnl := h.len
  simp only [List.length_append] at hnl
  have hnI : (n : Int) ≤ 1000 := by omega
  have hbn : b ≤ n := by omega
  have hmaz : ((m : Int) - (a : Int) == 1) = false := by rw [beq_eq_false_iff_ne]; omega
  have hbmz : ((b : Int) - (m : Int) == 1) = false := by rw [beq_eq_false_iff_ne]; omega
  have haI : (a : Int) ≤ (m : Int) := by omega
  have hmbI : (m : Int) ≤ (b : Int) := by omega
  have hbI : (b : Int) ≤ 1000 := by omega
  obtain ⟨ab, hab⟩ : ∃ ab, a + b = ab := ⟨_, rfl⟩
  obtain ⟨mid, hmid⟩ : ∃ mid, ab / 2 = mid := ⟨_, rfl⟩
  obtain ⟨nn, hnn⟩ : ∃ nn, mid + m = nn := ⟨_, rfl⟩
  obtain ⟨pp, hpp⟩ : ∃ pp, nn - 1 = pp := ⟨_, rfl⟩
  have habI : (a : Int) + (b : Int) = (ab : Int) := by omega
  have hab2 : (ab : Int) ≤ 2000 := by omega
  have hmidI : (ab : Int) / 2 = (mid : Int) := by omega
  have hmid2 : (mid : Int) ≤ 1000 := by omega
  have hnnI : (mid : Int) + (m : Int) = (nn : Int) := by omega
  have hnn2 : (nn : Int) ≤ 2000 := by omega
  have hppI : (nn : Int) - 1 = (pp : Int) := by omega
  have hL : (X ++ U ++ V ++ Y).length = n := by simp only [List.length_append]; omega
  have hUat : ∀ k, k < U.length → (X ++ U ++ V ++ Y).getD (a + k) 0 = U.getD k 0 := fun k hk => by
    rw [List.append_assoc, List.append_assoc, n_getD_app_right (j := k) (by omega), n_getD_app_left hk]
  have hVat : ∀ k, k < V.length → (X ++ U ++ V ++ Y).getD (m + k) 0 = V.getD k 0 := fun k hk => by
    rw [List.append_assoc, n_getD_app_right (j := k) (by rw [List.length_append]; omega), n_getD_app_left hk]
  obtain ⟨L, hLe⟩ : ∃ L, X ++ U ++ V ++ Y = L := ⟨_, rfl⟩
  rw [hLe] at h hL hVat hUat
  have key : ∀ (lo hi : Nat), a ≤ lo → lo ≤ hi → hi ≤ m → m + hi ≤ nn → nn ≤ b + lo → (lo = a ∨ lo + b = nn) → (hi = m ∨ hi = mid) → True := fun _ _ _ _ _ _ _ _ _ => trivial
  replace hVat := Lib.hid hVat
  replace hUat := Lib.hid hUat
  replace hL := Lib.hid hL
  replace hLe := Lib.hid hLe
  replace hnl := Lib.hid hnl
  clear key
  unfold usedV
  by_cases hg : mid < m
  · have hgI : (mid : Int) < (m : Int) := by omega
    obtain ⟨lo, hlo⟩ : ∃ lo, nn - b = lo := ⟨_, rfl⟩
    have hloI : (nn : Int) - (b : Int) = (lo : Int) := by omega
    have hlh : a ≤ lo ∧ lo ≤ mid ∧ mid ≤ m ∧ m + mid ≤ nn ∧ nn ≤ b + lo ∧ (lo = a ∨ lo + b = nn) ∧ (mid = m ∨ mid + m = nn) := by omega
    replace hlo := Lib.hid hlo
    obtain ⟨hl1, hl2, hl3, hl4, hl5, hl6, hl7⟩ := hlh
    replace hl6 := Lib.hid hl6
    replace hl7 := Lib.hid hl7
    go_enter Try.func74, Try.ntmps74
    go_wp2_with fail
    go_loopw [20, 21] (fun v20 v21 wr => ∃ i j : Nat, lo ≤ i ∧ i ≤ j ∧ j ≤ mid ∧ v20 = .int .i64 i ∧ v21 = .int .i64 j ∧ Hid (i = lo ∨ cs (U.getD (i - 1 - a) 0) ≤ cs (V.getD (nn - i - m) 0)) ∧ Hid (j = mid ∨ cs (V.getD (pp - j - m) 0) ≤ cs (U.getD (j - a) 0)) ∧ Nums wr B (.slice (some ⟨g, 0, none⟩) n c) L ∧ ButOf (fun x => x = g) w wr) (fun v20 v21 _ => (intOf v21).toNat - (intOf v20).toNat)
    case atStart => exact ⟨lo, mid, Nat.le_refl _, by omega, Nat.le_refl _, rfl, rfl, Lib.hid (Or.inl rfl), Lib.hid (Or.inl rfl), h, ButOf.refl _ _⟩
    case round =>
      obtain ⟨i, j, hmi, hij, hjb, rfl, rfl, hi, hj, hN, hB⟩ := hrel
      have hiI : (i : Int) ≤ (j : Int) := by omega
      have hjI : (j : Int) ≤ 1000 := by omega
      by_cases hlt2 : i < j
      · have hlI : (i : Int) < (j : Int) := by omega
        obtain ⟨s, hs⟩ : ∃ s, i + j = s := ⟨_, rfl⟩
        obtain ⟨d, hd⟩ : ∃ d, s / 2 = d := ⟨_, rfl⟩
        obtain ⟨q, hq⟩ : ∃ q, pp - d = q := ⟨_, rfl⟩
        have hsI : (i : Int) + (j : Int) = (s : Int) := by omega
        have hsb : (s : Int) ≤ 2000 := by omega
        have hdI : (s : Int) / 2 = (d : Int) := by omega
        have hdi : i ≤ d ∧ d < j := by omega
        have hqI : (pp : Int) - (d : Int) = (q : Int) := by omega
        have hqb : m ≤ q ∧ q < b := by omega
        have hdn : (d : Int) < (n : Int) := by omega
        have hqn : (q : Int) < (n : Int) := by omega
        have hdU : d - a < U.length := by omega
        have hqV : q - m < V.length := by omega
        obtain ⟨x, hx⟩ : ∃ x, U.getD (d - a) 0 = x := ⟨_, rfl⟩
        obtain ⟨y, hy⟩ : ∃ y, V.getD (q - m) 0 = y := ⟨_, rfl⟩
        have hxm : x < mm := hx ▸ hlt _ (List.mem_append_left _ (n_getD_mem hdU))
        have hym : y < mm := hy ▸ hlt _ (List.mem_append_right _ (n_getD_mem hqV))
        have cd := hN.at_ (k := d) (by rw [hL.out]; omega)
        have cq := hN.at_ (k := q) (by rw [hL.out]; omega)
        rw [show d = a + (d - a) by omega, hUat.out _ hdU, hx, show a + (d - a) = d by omega] at cd
        rw [show q = m + (q - m) by omega, hVat.out _ hqV, hy, show m + (q - m) = q by omega] at cq
        have hka := hk.but hB
        have hcmp := Lib.hid (fun z => used1_any y x (hka.drewN z) hym hxm)
        have hms1 : (intOf (.int .i64 (j : Int))).toNat - (intOf (.int .i64 ((d : Int) + 1))).toNat < (intOf (.int .i64 (j : Int))).toNat - (intOf (.int .i64 (i : Int))).toNat := by simp [intOf]; omega
        have hms2 : (intOf (.int .i64 (d : Int))).toNat - (intOf (.int .i64 (i : Int))).toNat < (intOf (.int .i64 (j : Int))).toNat - (intOf (.int .i64 (i : Int))).toNat := by simp [intOf]; omega
        replace hms1 := Lib.hid hms1
        replace hms2 := Lib.hid hms2
        have hqe : nn - (d + 1) - m = q - m := by omega
        have hqe2 : pp - d - m = q - m := by omega
        replace hs := Lib.hid hs
        replace hd := Lib.hid hd
        replace hq := Lib.hid hq
        by_cases hc : cs y < cs x
        · have hcI : (cs y : Int) - (cs x : Int) < 0 := by omega
          have hcd : decide ((cs y : Int) - (cs x : Int) < 0) = true := decide_eq_true hcI
          have hnx : Hid (d = mid ∨ cs (V.getD (pp - d - m) 0) ≤ cs (U.getD (d - a) 0)) := Lib.hid (Or.inr (by rw [hqe2, hx, hy]; omega))
          replace hx := Lib.hid hx
          replace hy := Lib.hid hy
          clear hc hka hqe hqe2
          go_wp2_with fail
          go_quiet ((go_at_call 65; exact Calls.quiet_of (hcmp.out _)))
          go_wp2_with fail
          go_roundw
          case rel => exact ⟨i, d, by omega, by omega, by omega, rfl, rfl, hi, hnx, hN.below (below_drewN (Below.refl _ _) _), hB.drewN _⟩
          case measure => exact hms2.out
        · have hcI : ¬ ((cs y : Int) - (cs x : Int) < 0) := by omega
          have hcd : decide ((cs y : Int) - (cs x : Int) < 0) = false := decide_eq_false hcI
          have hnx : Hid (d + 1 = lo ∨ cs (U.getD (d + 1 - 1 - a) 0) ≤ cs (V.getD (nn - (d + 1) - m) 0)) := Lib.hid (Or.inr (by rw [hqe, show d + 1 - 1 - a = d - a by omega, hx, hy]; omega))
          replace hx := Lib.hid hx
          replace hy := Lib.hid hy
          clear hc hka hqe hqe2
          go_wp2_with fail
          go_quiet ((go_at_call 65; exact Calls.quiet_of (hcmp.out _)))
          go_wp2_with fail
          go_roundw
          case rel => exact ⟨d + 1, j, by omega, by omega, hjb, by simp, rfl, hnx, hj, hN.below (below_drewN (Below.refl _ _) _), hB.drewN _⟩
          case measure => exact hms1.out
      · have hlI : ¬ ((i : Int) < (j : Int)) := by omega
        obtain rfl : i = j := by omega
        obtain ⟨st, hst⟩ : ∃ st, i = st := ⟨_, rfl⟩
        subst hst
        obtain ⟨en, hen⟩ : ∃ en, nn - i = en := ⟨_, rfl⟩
        have henI : (nn : Int) - (i : Int) = (en : Int) := by omega
        have hX := ha
        have hb1 : a ≤ i ∧ i ≤ m ∧ m ≤ en ∧ en ≤ b ∧ en - m = mid - i ∧ m - i = en - mid ∧ i ≤ mid ∧ mid ≤ en := by omega
        obtain ⟨r1, r2, r3, r4, r5, r6, r7, r8⟩ := hb1
        have g1 := hi.out
        have g2 := hj.out
        have g3 := hl6.out
        have g4 := hl7.out
        have hsplit := sym_split (cs := cs) (i := i) (en := en) hU hV hm hb r1 r2 r3 r4 (by omega) (show i = a ∨ en = b ∨ cs (U.getD (i - 1 - a) 0) ≤ cs (V.getD (en - m) 0) from by
            rcases g1 with e | e
            · omega
            · right; right; rw [← hen]; exact e) (show i = m ∨ en = m ∨ cs (V.getD (en - 1 - m) 0) ≤ cs (U.getD (i - a) 0) from by
            rcases g2 with e | e
            · omega
            · right; right; rw [show en - 1 - m = pp - i - m by omega]; exact e)
        obtain ⟨U1, U2, V1, V2, rfl, rfl, k1, k2, k3, k4, hU1, hU2, hV1, hV2, hcross, hperm⟩ := hsplit
        have hltA : ∀ x ∈ U1 ++ V1, x < mm := fun x hx => hlt x (by simp only [List.mem_append] at hx ⊢; rcases hx with e | e <;> simp [e])
        have hltB : ∀ x ∈ U2 ++ V2, x < mm := fun x hx => hlt x (by simp only [List.mem_append] at hx ⊢; rcases hx with e | e <;> simp [e])
        have hN : Nums wr B (.slice (some ⟨g, 0, none⟩) n c) (X ++ U1 ++ U2 ++ V1 ++ (V2 ++ Y)) := by have h3 := hN; rw [← hLe.out] at h3; simpa using h3
        rw [List.length_append] at hu hm
        rw [List.length_append] at hv hb
        simp only [List.length_append] at IH
        clear hi hj hlt2 hL hLe hVat hUat hl6 hl7 g1 g2 g3 g4 hlt hU hV h hij hjb hmi hen hl1 hl2 hl3 hl4 hl5
        by_cases q1 : i = a
        · by_cases q2 : en = m
          · exfalso
            omega
          · by_cases q3 : en = b
            · have d1 : (i : Int) < (m : Int) := by omega
              have d2 : (m : Int) < (en : Int) := by omega
              have d3 : ¬ ((a : Int) < (i : Int)) := by omega
              have d4 : (i : Int) < (mid : Int) := by omega
              have d5 : (mid : Int) < (en : Int) := by omega
              have d6 : ¬ ((en : Int) < (b : Int)) := by omega
              have eU1 : U1 = [] := List.eq_nil_of_length_eq_zero (by omega)
              have eV2 : V2 = [] := List.eq_nil_of_length_eq_zero (by omega)
              have hrot := Lib.hid (rotate_any (X := X ++ U1) (U := U2) (V := V1) (Y := V2 ++ Y) (a := i) (m := m) (b := en) (usedV p) hN (by rw [List.length_append]; omega) (by rw [List.length_append]; omega) (by rw [List.length_append]; omega) (by omega) (by omega) hn)
              have hz1 : Asc cs (U1 ++ V1) := by rw [eU1]; exact hV1
              have hz2 : Asc cs (U2 ++ V2) := by rw [eV2, List.append_nil]; exact hU2
              replace hcross := Lib.hid hcross
              replace hperm := Lib.hid hperm
              clear q1 q2 q3
              clear eU1 eV2
              go_wp2_with (go_at_call 76; refine hrot.out.mono ?_; rintro e w5 ⟨rfl, hN5, hB5⟩)
              go_end0
              exact ⟨rfl, ⟨(U1 ++ V1) ++ (U2 ++ V2), (by have h3 := hperm.out _ _ (List.Perm.refl _) (List.Perm.refl _); simpa only [List.append_assoc] using h3), hcross.out _ _ (List.Perm.refl _) (List.Perm.refl _) hz1 hz2, by simpa using hN5⟩, (hB.trans hB5)⟩
            · exfalso
              have h9 := hlo.out
              omega
        · by_cases q4 : i = m
          · by_cases q2 : en = m
            · exfalso
              have h9 := hlo.out
              omega
            · by_cases q3 : en = b
              · exfalso
                omega
              · exfalso
                have h9 := hlo.out
                omega
          · by_cases q2 : en = m
            · have d1 : (i : Int) < (m : Int) := by omega
              have d2 : ¬ ((m : Int) < (en : Int)) := by omega
              have d3 : (a : Int) < (i : Int) := by omega
              have d4 : ¬ ((i : Int) < (mid : Int)) := by omega
              have d5 : (mid : Int) < (en : Int) := by omega
              have d6 : (en : Int) < (b : Int) := by omega
              have eV1 : V1 = [] := List.eq_nil_of_length_eq_zero (by omega)
              have hN5 : Nums wr B (.slice (some ⟨g, 0, none⟩) n c) (X ++ U1 ++ V1 ++ U2 ++ (V2 ++ Y)) := by rw [eV1] at hN ⊢; simpa using hN
              have hz1 : Asc cs (U1 ++ V1) := by rw [eV1, List.append_nil]; exact hU1
              have hs2 := Lib.hid (fun W (Z1 : List Nat) (hl : Z1.length = mid - a) (hW : Nums W B (.slice (some ⟨g, 0, none⟩) n c) (X ++ Z1 ++ (U2 ++ (V2 ++ Y)))) (hBW : ButOf (fun x => x = g) w W) => IH (w := W) (B := B) (X := X ++ Z1) (U' := U2) (V' := V2) (Y := Y) (a := mid) (m := en) (b := b) (by omega) (hk.but hBW) (by simpa using hW) hltB hU2 hV2 (by rw [List.length_append]; omega) (by omega) (by omega) (by omega) (by omega) hn)
              have hl1 : Hid (U1.length + V1.length = mid - a) := Lib.hid (by omega)
              have hlz := Lib.hid (fun (Z : List Nat) (hp : Z.Perm (U1 ++ V1)) => show Z.length = mid - a from by rw [hp.length_eq, List.length_append]; exact hl1.out)
              have hcast := Lib.hid (fun W (hW : Nums W B (.slice (some ⟨g, 0, none⟩) n c) (X ++ U1 ++ V1 ++ U2 ++ (V2 ++ Y))) => show Nums W B (.slice (some ⟨g, 0, none⟩) n c) (X ++ (U1 ++ V1) ++ (U2 ++ (V2 ++ Y))) from by simpa using hW)
              replace hcross := Lib.hid hcross
              replace hperm := Lib.hid hperm
              clear q1 q4 q2
              clear eV1
              go_wp2_with (go_at_call 74; (with_reducible show Calls _ _ #[_, .int .i64 (mid : Nat), _, _, _] _ _); refine (hs2.out _ (U1 ++ V1) (hlz.out _ (List.Perm.refl _)) (hcast.out _ hN5) hB).mono ?_; rintro e w7 ⟨rfl, ⟨Z2, hp2, hz2, hN7⟩, hB7⟩)
              go_end0
              exact ⟨rfl, ⟨(U1 ++ V1) ++ Z2, (by have h3 := hperm.out _ _ (List.Perm.refl _) hp2; simpa only [List.append_assoc] using h3), hcross.out _ _ (List.Perm.refl _) hp2 hz1 hz2, by simpa using hN7⟩, (hB.trans hB7)⟩
            · by_cases q3 : en = b
              · have d1 : (i : Int) < (m : Int) := by omega
                have d2 : (m : Int) < (en : Int) := by omega
                have d3 : (a : Int) < (i : Int) := by omega
                have d4 : (i : Int) < (mid : Int) := by omega
                have d5 : (mid : Int) < (en : Int) := by omega
                have d6 : ¬ ((en : Int) < (b : Int)) := by omega
                have eV2 : V2 = [] := List.eq_nil_of_length_eq_zero (by omega)
                have hrot := Lib.hid (rotate_any (X := X ++ U1) (U := U2) (V := V1) (Y := V2 ++ Y) (a := i) (m := m) (b := en) (usedV p) hN (by rw [List.length_append]; omega) (by rw [List.length_append]; omega) (by rw [List.length_append]; omega) (by omega) (by omega) hn)
                have hs1 := Lib.hid (fun W (hW : Nums W B (.slice (some ⟨g, 0, none⟩) n c) (X ++ U1 ++ V1 ++ U2 ++ (V2 ++ Y))) (hBW : ButOf (fun x => x = g) w W) => IH (w := W) (B := B) (X := X) (U' := U1) (V' := V1) (Y := U2 ++ (V2 ++ Y)) (a := a) (m := i) (b := mid) (by omega) (hk.but hBW) (by simpa using hW) hltA hU1 hV1 (by omega) (by omega) (by omega) (by omega) (by omega) hn)
                have hz2 : Asc cs (U2 ++ V2) := by rw [eV2, List.append_nil]; exact hU2
                replace hcross := Lib.hid hcross
                replace hperm := Lib.hid hperm
                clear q1 q4 q2 q3
                clear eV2
                go_wp2_with (first | (go_at_call 76; refine hrot.out.mono ?_; rintro e w5 ⟨rfl, hN5, hB5⟩) | (go_at_call 74; (with_reducible show Calls _ _ #[_, .int .i64 (a : Nat), _, _, _] _ _); refine (hs1.out _ hN5 (hB.trans hB5)).mono ?_; rintro e w6 ⟨rfl, ⟨Z1, hp1, hz1, hN6⟩, hB6⟩))
                go_end0
                exact ⟨rfl, ⟨Z1 ++ (U2 ++ V2), (by have h3 := hperm.out _ _ hp1 (List.Perm.refl _); simpa only [List.append_assoc] using h3), hcross.out _ _ hp1 (List.Perm.refl _) hz1 hz2, by simpa using hN6⟩, ((hB.trans hB5).trans hB6)⟩
              · have d1 : (i : Int) < (m : Int) := by omega
                have d2 : (m : Int) < (en : Int) := by omega
                have d3 : (a : Int) < (i : Int) := by omega
                have d4 : (i : Int) < (mid : Int) := by omega
                have d5 : (mid : Int) < (en : Int) := by omega
                have d6 : (en : Int) < (b : Int) := by omega
                have hrot := Lib.hid (rotate_any (X := X ++ U1) (U := U2) (V := V1) (Y := V2 ++ Y) (a := i) (m := m) (b := en) (usedV p) hN (by rw [List.length_append]; omega) (by rw [List.length_append]; omega) (by rw [List.length_append]; omega) (by omega) (by omega) hn)
                have hs1 := Lib.hid (fun W (hW : Nums W B (.slice (some ⟨g, 0, none⟩) n c) (X ++ U1 ++ V1 ++ U2 ++ (V2 ++ Y))) (hBW : ButOf (fun x => x = g) w W) => IH (w := W) (B := B) (X := X) (U' := U1) (V' := V1) (Y := U2 ++ (V2 ++ Y)) (a := a) (m := i) (b := mid) (by omega) (hk.but hBW) (by simpa using hW) hltA hU1 hV1 (by omega) (by omega) (by omega) (by omega) (by omega) hn)
                have hs2 := Lib.hid (fun W (Z1 : List Nat) (hl : Z1.length = mid - a) (hW : Nums W B (.slice (some ⟨g, 0, none⟩) n c) (X ++ Z1 ++ (U2 ++ (V2 ++ Y)))) (hBW : ButOf (fun x => x = g) w W) => IH (w := W) (B := B) (X := X ++ Z1) (U' := U2) (V' := V2) (Y := Y) (a := mid) (m := en) (b := b) (by omega) (hk.but hBW) (by simpa using hW) hltB hU2 hV2 (by rw [List.length_append]; omega) (by omega) (by omega) (by omega) (by omega) hn)
                have hl1 : Hid (U1.length + V1.length = mid - a) := Lib.hid (by omega)
                have hlz := Lib.hid (fun (Z : List Nat) (hp : Z.Perm (U1 ++ V1)) => show Z.length = mid - a from by rw [hp.length_eq, List.length_append]; exact hl1.out)
                replace hcross := Lib.hid hcross
                replace hperm := Lib.hid hperm
                clear q1 q4 q2 q3
                go_wp2_with (first | (go_at_call 76; refine hrot.out.mono ?_; rintro e w5 ⟨rfl, hN5, hB5⟩) | (go_at_call 74; (with_reducible show Calls _ _ #[_, .int .i64 (a : Nat), _, _, _] _ _); refine (hs1.out _ hN5 (hB.trans hB5)).mono ?_; rintro e w6 ⟨rfl, ⟨Z1, hp1, hz1, hN6⟩, hB6⟩) | (go_at_call 74; (with_reducible show Calls _ _ #[_, .int .i64 (mid : Nat), _, _, _] _ _); refine (hs2.out _ Z1 (hlz.out _ hp1) hN6 ((hB.trans hB5).trans hB6)).mono ?_; rintro e w7 ⟨rfl, ⟨Z2, hp2, hz2, hN7⟩, hB7⟩))
                go_end0
                exact ⟨rfl, ⟨Z1 ++ Z2, (by have h3 := hperm.out _ _ hp1 hp2; simpa only [List.append_assoc] using h3), hcross.out _ _ hp1 hp2 hz1 hz2, by simpa using hN7⟩, (((hB.trans hB5).trans hB6).trans hB7)⟩
  · have hgI : ¬ ((mid : Int) < (m : Int)) := by omega
    have hlh : a ≤ a ∧ a ≤ m ∧ m ≤ m ∧ m + m ≤ nn ∧ nn ≤ b + a ∧ (a = a ∨ a + b = nn) ∧ (m = m ∨ m + m = nn) := by omega
    obtain ⟨hl1, hl2, hl3, hl4, hl5, hl6, hl7⟩ := hlh
    replace hl6 := Lib.hid hl6
    replace hl7 := Lib.hid hl7
    go_enter Try.func74, Try.ntmps74
    go_wp2_with fail
    go_loopw [20, 21] (fun v20 v21 wr => ∃ i j : Nat, a ≤ i ∧ i ≤ j ∧ j ≤ m ∧ v20 = .int .i64 i ∧ v21 = .int .i64 j ∧ Hid (i = a ∨ cs (U.getD (i - 1 - a) 0) ≤ cs (V.getD (nn - i - m) 0)) ∧ Hid (j = m ∨ cs (V.getD (pp - j - m) 0) ≤ cs (U.getD (j - a) 0)) ∧ Nums wr B (.slice (some ⟨g, 0, none⟩) n c) L ∧ ButOf (fun x => x = g) w wr) (fun v20 v21 _ => (intOf v21).toNat - (intOf v20).toNat)
    case atStart => exact ⟨a, m, Nat.le_refl _, by omega, Nat.le_refl _, rfl, rfl, Lib.hid (Or.inl rfl), Lib.hid (Or.inl rfl), h, ButOf.refl _ _⟩
    case round =>
      obtain ⟨i, j, hmi, hij, hjb, rfl, rfl, hi, hj, hN, hB⟩ := hrel
      have hiI : (i : Int) ≤ (j : Int) := by omega
      have hjI : (j : Int) ≤ 1000 := by omega
      by_cases hlt2 : i < j
      · have hlI : (i : Int) < (j : Int) := by omega
        obtain ⟨s, hs⟩ : ∃ s, i + j = s := ⟨_, rfl⟩
        obtain ⟨d, hd⟩ : ∃ d, s / 2 = d := ⟨_, rfl⟩
        obtain ⟨q, hq⟩ : ∃ q, pp - d = q := ⟨_, rfl⟩
        have hsI : (i : Int) + (j : Int) = (s : Int) := by omega
        have hsb : (s : Int) ≤ 2000 := by omega
        have hdI : (s : Int) / 2 = (d : Int) := by omega
        have hdi : i ≤ d ∧ d < j := by omega
        have hqI : (pp : Int) - (d : Int) = (q : Int) := by omega
        have hqb : m ≤ q ∧ q < b := by omega
        have hdn : (d : Int) < (n : Int) := by omega
        have hqn : (q : Int) < (n : Int) := by omega
        have hdU : d - a < U.length := by omega
        have hqV : q - m < V.length := by omega
        obtain ⟨x, hx⟩ : ∃ x, U.getD (d - a) 0 = x := ⟨_, rfl⟩
        obtain ⟨y, hy⟩ : ∃ y, V.getD (q - m) 0 = y := ⟨_, rfl⟩
        have hxm : x < mm := hx ▸ hlt _ (List.mem_append_left _ (n_getD_mem hdU))
        have hym : y < mm := hy ▸ hlt _ (List.mem_append_right _ (n_getD_mem hqV))
        have cd := hN.at_ (k := d) (by rw [hL.out]; omega)
        have cq := hN.at_ (k := q) (by rw [hL.out]; omega)
        rw [show d = a + (d - a) by omega, hUat.out _ hdU, hx, show a + (d - a) = d by omega] at cd
        rw [show q = m + (q - m) by omega, hVat.out _ hqV, hy, show m + (q - m) = q by omega] at cq
        have hka := hk.but hB
        have hcmp := Lib.hid (fun z => used1_any y x (hka.drewN z) hym hxm)
        have hms1 : (intOf (.int .i64 (j : Int))).toNat - (intOf (.int .i64 ((d : Int) + 1))).toNat < (intOf (.int .i64 (j : Int))).toNat - (intOf (.int .i64 (i : Int))).toNat := by simp [intOf]; omega
        have hms2 : (intOf (.int .i64 (d : Int))).toNat - (intOf (.int .i64 (i : Int))).toNat < (intOf (.int .i64 (j : Int))).toNat - (intOf (.int .i64 (i : Int))).toNat := by simp [intOf]; omega
        replace hms1 := Lib.hid hms1
        replace hms2 := Lib.hid hms2
        have hqe : nn - (d + 1) - m = q - m := by omega
        have hqe2 : pp - d - m = q - m := by omega
        replace hs := Lib.hid hs
        replace hd := Lib.hid hd
        replace hq := Lib.hid hq
        by_cases hc : cs y < cs x
        · have hcI : (cs y : Int) - (cs x : Int) < 0 := by omega
          have hcd : decide ((cs y : Int) - (cs x : Int) < 0) = true := decide_eq_true hcI
          have hnx : Hid (d = m ∨ cs (V.getD (pp - d - m) 0) ≤ cs (U.getD (d - a) 0)) := Lib.hid (Or.inr (by rw [hqe2, hx, hy]; omega))
          replace hx := Lib.hid hx
          replace hy := Lib.hid hy
          clear hc hka hqe hqe2
          go_wp2_with fail
          go_quiet ((go_at_call 65; exact Calls.quiet_of (hcmp.out _)))
          go_wp2_with fail
          go_roundw
          case rel => exact ⟨i, d, by omega, by omega, by omega, rfl, rfl, hi, hnx, hN.below (below_drewN (Below.refl _ _) _), hB.drewN _⟩
          case measure => exact hms2.out
        · have hcI : ¬ ((cs y : Int) - (cs x : Int) < 0) := by omega
          have hcd : decide ((cs y : Int) - (cs x : Int) < 0) = false := decide_eq_false hcI
          have hnx : Hid (d + 1 = a ∨ cs (U.getD (d + 1 - 1 - a) 0) ≤ cs (V.getD (nn - (d + 1) - m) 0)) := Lib.hid (Or.inr (by rw [hqe, show d + 1 - 1 - a = d - a by omega, hx, hy]; omega))
          replace hx := Lib.hid hx
          replace hy := Lib.hid hy
          clear hc hka hqe hqe2
          go_wp2_with fail
          go_quiet ((go_at_call 65; exact Calls.quiet_of (hcmp.out _)))
          go_wp2_with fail
          go_roundw
          case rel => exact ⟨d + 1, j, by omega, by omega, hjb, by simp, rfl, hnx, hj, hN.below (below_drewN (Below.refl _ _) _), hB.drewN _⟩
          case measure => exact hms1.out
      · have hlI : ¬ ((i : Int) < (j : Int)) := by omega
        obtain rfl : i = j := by omega
        obtain ⟨st, hst⟩ : ∃ st, i = st := ⟨_, rfl⟩
        subst hst
        obtain ⟨en, hen⟩ : ∃ en, nn - i = en := ⟨_, rfl⟩
        have henI : (nn : Int) - (i : Int) = (en : Int) := by omega
        have hX := ha
        have hb1 : a ≤ i ∧ i ≤ m ∧ m ≤ en ∧ en ≤ b ∧ en - m = mid - i ∧ m - i = en - mid ∧ i ≤ mid ∧ mid ≤ en := by omega
        obtain ⟨r1, r2, r3, r4, r5, r6, r7, r8⟩ := hb1
        have g1 := hi.out
        have g2 := hj.out
        have g3 := hl6.out
        have g4 := hl7.out
        have hsplit := sym_split (cs := cs) (i := i) (en := en) hU hV hm hb r1 r2 r3 r4 (by omega) (show i = a ∨ en = b ∨ cs (U.getD (i - 1 - a) 0) ≤ cs (V.getD (en - m) 0) from by
            rcases g1 with e | e
            · omega
            · right; right; rw [← hen]; exact e) (show i = m ∨ en = m ∨ cs (V.getD (en - 1 - m) 0) ≤ cs (U.getD (i - a) 0) from by
            rcases g2 with e | e
            · omega
            · right; right; rw [show en - 1 - m = pp - i - m by omega]; exact e)
        obtain ⟨U1, U2, V1, V2, rfl, rfl, k1, k2, k3, k4, hU1, hU2, hV1, hV2, hcross, hperm⟩ := hsplit
        have hltA : ∀ x ∈ U1 ++ V1, x < mm := fun x hx => hlt x (by simp only [List.mem_append] at hx ⊢; rcases hx with e | e <;> simp [e])
        have hltB : ∀ x ∈ U2 ++ V2, x < mm := fun x hx => hlt x (by simp only [List.mem_append] at hx ⊢; rcases hx with e | e <;> simp [e])
        have hN : Nums wr B (.slice (some ⟨g, 0, none⟩) n c) (X ++ U1 ++ U2 ++ V1 ++ (V2 ++ Y)) := by have h3 := hN; rw [← hLe.out] at h3; simpa using h3
        rw [List.length_append] at hu hm
        rw [List.length_append] at hv hb
        simp only [List.length_append] at IH
        clear hi hj hlt2 hL hLe hVat hUat hl6 hl7 g1 g2 g3 g4 hlt hU hV h hij hjb hmi hen hl1 hl2 hl3 hl4 hl5
        by_cases q1 : i = a
        · by_cases q2 : en = m
          · exfalso
            omega
          · by_cases q3 : en = b
            · have d1 : (i : Int) < (m : Int) := by omega
              have d2 : (m : Int) < (en : Int) := by omega
              have d3 : ¬ ((a : Int) < (i : Int)) := by omega
              have d4 : (i : Int) < (mid : Int) := by omega
              have d5 : (mid : Int) < (en : Int) := by omega
              have d6 : ¬ ((en : Int) < (b : Int)) := by omega
              have eU1 : U1 = [] := List.eq_nil_of_length_eq_zero (by omega)
              have eV2 : V2 = [] := List.eq_nil_of_length_eq_zero (by omega)
              have hrot := Lib.hid (rotate_any (X := X ++ U1) (U := U2) (V := V1) (Y := V2 ++ Y) (a := i) (m := m) (b := en) (usedV p) hN (by rw [List.length_append]; omega) (by rw [List.length_append]; omega) (by rw [List.length_append]; omega) (by omega) (by omega) hn)
              have hz1 : Asc cs (U1 ++ V1) := by rw [eU1]; exact hV1
              have hz2 : Asc cs (U2 ++ V2) := by rw [eV2, List.append_nil]; exact hU2
              replace hcross := Lib.hid hcross
              replace hperm := Lib.hid hperm
              clear q1 q2 q3
              clear eU1 eV2
              go_wp2_with (go_at_call 76; refine hrot.out.mono ?_; rintro e w5 ⟨rfl, hN5, hB5⟩)
              go_end0
              exact ⟨rfl, ⟨(U1 ++ V1) ++ (U2 ++ V2), (by have h3 := hperm.out _ _ (List.Perm.refl _) (List.Perm.refl _); simpa only [List.append_assoc] using h3), hcross.out _ _ (List.Perm.refl _) (List.Perm.refl _) hz1 hz2, by simpa using hN5⟩, (hB.trans hB5)⟩
            · have d1 : (i : Int) < (m : Int) := by omega
              have d2 : (m : Int) < (en : Int) := by omega
              have d3 : ¬ ((a : Int) < (i : Int)) := by omega
              have d4 : (i : Int) < (mid : Int) := by omega
              have d5 : (mid : Int) < (en : Int) := by omega
              have d6 : (en : Int) < (b : Int) := by omega
              have eU1 : U1 = [] := List.eq_nil_of_length_eq_zero (by omega)
              have hrot := Lib.hid (rotate_any (X := X ++ U1) (U := U2) (V := V1) (Y := V2 ++ Y) (a := i) (m := m) (b := en) (usedV p) hN (by rw [List.length_append]; omega) (by rw [List.length_append]; omega) (by rw [List.length_append]; omega) (by omega) (by omega) hn)
              have hz1 : Asc cs (U1 ++ V1) := by rw [eU1]; exact hV1
              have hs2 := Lib.hid (fun W (Z1 : List Nat) (hl : Z1.length = mid - a) (hW : Nums W B (.slice (some ⟨g, 0, none⟩) n c) (X ++ Z1 ++ (U2 ++ (V2 ++ Y)))) (hBW : ButOf (fun x => x = g) w W) => IH (w := W) (B := B) (X := X ++ Z1) (U' := U2) (V' := V2) (Y := Y) (a := mid) (m := en) (b := b) (by omega) (hk.but hBW) (by simpa using hW) hltB hU2 hV2 (by rw [List.length_append]; omega) (by omega) (by omega) (by omega) (by omega) hn)
              have hl1 : Hid (U1.length + V1.length = mid - a) := Lib.hid (by omega)
              have hlz := Lib.hid (fun (Z : List Nat) (hp : Z.Perm (U1 ++ V1)) => show Z.length = mid - a from by rw [hp.length_eq, List.length_append]; exact hl1.out)
              have hcast := Lib.hid (fun W (hW : Nums W B (.slice (some ⟨g, 0, none⟩) n c) (X ++ U1 ++ V1 ++ U2 ++ (V2 ++ Y))) => show Nums W B (.slice (some ⟨g, 0, none⟩) n c) (X ++ (U1 ++ V1) ++ (U2 ++ (V2 ++ Y))) from by simpa using hW)
              replace hcross := Lib.hid hcross
              replace hperm := Lib.hid hperm
              clear q1 q2 q3
              clear eU1
              go_wp2_with (first | (go_at_call 76; refine hrot.out.mono ?_; rintro e w5 ⟨rfl, hN5, hB5⟩) | (go_at_call 74; (with_reducible show Calls _ _ #[_, .int .i64 (mid : Nat), _, _, _] _ _); refine (hs2.out _ (U1 ++ V1) (hlz.out _ (List.Perm.refl _)) (hcast.out _ hN5) (hB.trans hB5)).mono ?_; rintro e w7 ⟨rfl, ⟨Z2, hp2, hz2, hN7⟩, hB7⟩))
              go_end0
              exact ⟨rfl, ⟨(U1 ++ V1) ++ Z2, (by have h3 := hperm.out _ _ (List.Perm.refl _) hp2; simpa only [List.append_assoc] using h3), hcross.out _ _ (List.Perm.refl _) hp2 hz1 hz2, by simpa using hN7⟩, ((hB.trans hB5).trans hB7)⟩
        · by_cases q4 : i = m
          · by_cases q2 : en = m
            · have d1 : ¬ ((i : Int) < (m : Int)) := by omega
              have d2 : ¬ ((m : Int) < (en : Int)) := by omega
              have d3 : (a : Int) < (i : Int) := by omega
              have d4 : ¬ ((i : Int) < (mid : Int)) := by omega
              have d5 : ¬ ((mid : Int) < (en : Int)) := by omega
              have d6 : (en : Int) < (b : Int) := by omega
              have eU2 : U2 = [] := List.eq_nil_of_length_eq_zero (by omega)
              have eV1 : V1 = [] := List.eq_nil_of_length_eq_zero (by omega)
              have hN5 : Nums wr B (.slice (some ⟨g, 0, none⟩) n c) (X ++ U1 ++ V1 ++ U2 ++ (V2 ++ Y)) := by rw [eU2] at hN ⊢; simpa using hN
              have hz1 : Asc cs (U1 ++ V1) := by rw [eV1, List.append_nil]; exact hU1
              have hz2 : Asc cs (U2 ++ V2) := by rw [eU2]; exact hV2
              replace hcross := Lib.hid hcross
              replace hperm := Lib.hid hperm
              clear q1 q4 q2
              clear eU2 eV1
              go_wp2_with fail
              go_end0
              exact ⟨rfl, ⟨(U1 ++ V1) ++ (U2 ++ V2), (by have h3 := hperm.out _ _ (List.Perm.refl _) (List.Perm.refl _); simpa only [List.append_assoc] using h3), hcross.out _ _ (List.Perm.refl _) (List.Perm.refl _) hz1 hz2, by simpa using hN5⟩, hB⟩
            · by_cases q3 : en = b
              · exfalso
                omega
              · have d1 : ¬ ((i : Int) < (m : Int)) := by omega
                have d2 : (m : Int) < (en : Int) := by omega
                have d3 : (a : Int) < (i : Int) := by omega
                have d4 : (i : Int) < (mid : Int) := by omega
                have d5 : ¬ ((mid : Int) < (en : Int)) := by omega
                have d6 : (en : Int) < (b : Int) := by omega
                have eU2 : U2 = [] := List.eq_nil_of_length_eq_zero (by omega)
                have hN5 : Nums wr B (.slice (some ⟨g, 0, none⟩) n c) (X ++ U1 ++ V1 ++ U2 ++ (V2 ++ Y)) := by rw [eU2] at hN ⊢; simpa using hN
                have hs1 := Lib.hid (fun W (hW : Nums W B (.slice (some ⟨g, 0, none⟩) n c) (X ++ U1 ++ V1 ++ U2 ++ (V2 ++ Y))) (hBW : ButOf (fun x => x = g) w W) => IH (w := W) (B := B) (X := X) (U' := U1) (V' := V1) (Y := U2 ++ (V2 ++ Y)) (a := a) (m := i) (b := mid) (by omega) (hk.but hBW) (by simpa using hW) hltA hU1 hV1 (by omega) (by omega) (by omega) (by omega) (by omega) hn)
                have hz2 : Asc cs (U2 ++ V2) := by rw [eU2]; exact hV2
                replace hcross := Lib.hid hcross
                replace hperm := Lib.hid hperm
                clear q1 q4 q2 q3
                clear eU2
                go_wp2_with (go_at_call 74; (with_reducible show Calls _ _ #[_, .int .i64 (a : Nat), _, _, _] _ _); refine (hs1.out _ hN5 hB).mono ?_; rintro e w6 ⟨rfl, ⟨Z1, hp1, hz1, hN6⟩, hB6⟩)
                go_end0
                exact ⟨rfl, ⟨Z1 ++ (U2 ++ V2), (by have h3 := hperm.out _ _ hp1 (List.Perm.refl _); simpa only [List.append_assoc] using h3), hcross.out _ _ hp1 (List.Perm.refl _) hz1 hz2, by simpa using hN6⟩, (hB.trans hB6)⟩
          · by_cases q2 : en = m
            · exfalso
              omega
            · by_cases q3 : en = b
              · exfalso
                omega
              · have d1 : (i : Int) < (m : Int) := by omega
                have d2 : (m : Int) < (en : Int) := by omega
                have d3 : (a : Int) < (i : Int) := by omega
                have d4 : (i : Int) < (mid : Int) := by omega
                have d5 : (mid : Int) < (en : Int) := by omega
                have d6 : (en : Int) < (b : Int) := by omega
                have hrot := Lib.hid (rotate_any (X := X ++ U1) (U := U2) (V := V1) (Y := V2 ++ Y) (a := i) (m := m) (b := en) (usedV p) hN (by rw [List.length_append]; omega) (by rw [List.length_append]; omega) (by rw [List.length_append]; omega) (by omega) (by omega) hn)
                have hs1 := Lib.hid (fun W (hW : Nums W B (.slice (some ⟨g, 0, none⟩) n c) (X ++ U1 ++ V1 ++ U2 ++ (V2 ++ Y))) (hBW : ButOf (fun x => x = g) w W) => IH (w := W) (B := B) (X := X) (U' := U1) (V' := V1) (Y := U2 ++ (V2 ++ Y)) (a := a) (m := i) (b := mid) (by omega) (hk.but hBW) (by simpa using hW) hltA hU1 hV1 (by omega) (by omega) (by omega) (by omega) (by omega) hn)
                have hs2 := Lib.hid (fun W (Z1 : List Nat) (hl : Z1.length = mid - a) (hW : Nums W B (.slice (some ⟨g, 0, none⟩) n c) (X ++ Z1 ++ (U2 ++ (V2 ++ Y)))) (hBW : ButOf (fun x => x = g) w W) => IH (w := W) (B := B) (X := X ++ Z1) (U' := U2) (V' := V2) (Y := Y) (a := mid) (m := en) (b := b) (by omega) (hk.but hBW) (by simpa using hW) hltB hU2 hV2 (by rw [List.length_append]; omega) (by omega) (by omega) (by omega) (by omega) hn)
                have hl1 : Hid (U1.length + V1.length = mid - a) := Lib.hid (by omega)
                have hlz := Lib.hid (fun (Z : List Nat) (hp : Z.Perm (U1 ++ V1)) => show Z.length = mid - a from by rw [hp.length_eq, List.length_append]; exact hl1.out)
                replace hcross := Lib.hid hcross
                replace hperm := Lib.hid hperm
                clear q1 q4 q2 q3
                go_wp2_with (first | (go_at_call 76; refine hrot.out.mono ?_; rintro e w5 ⟨rfl, hN5, hB5⟩) | (go_at_call 74; (with_reducible show Calls _ _ #[_, .int .i64 (a : Nat), _, _, _] _ _); refine (hs1.out _ hN5 (hB.trans hB5)).mono ?_; rintro e w6 ⟨rfl, ⟨Z1, hp1, hz1, hN6⟩, hB6⟩) | (go_at_call 74; (with_reducible show Calls _ _ #[_, .int .i64 (mid : Nat), _, _, _] _ _); refine (hs2.out _ Z1 (hlz.out _ hp1) hN6 ((hB.trans hB5).trans hB6)).mono ?_; rintro e w7 ⟨rfl, ⟨Z2, hp2, hz2, hN7⟩, hB7⟩))
                go_end0
                exact ⟨rfl, ⟨Z1 ++ Z2, (by have h3 := hperm.out _ _ hp1 hp2; simpa only [List.append_assoc] using h3), hcross.out _ _ hp1 hp2 hz1 hz2, by simpa using hN7⟩, (((hB.trans hB5).trans hB6).trans hB7)⟩
theorem symMerge_any : ∀ (N : Nat) {w : World} {B p g n c a m b : Nat} {ca : Option Addr} {mm cc : Nat} {cs : Nat → Nat} {X U V Y : List Nat}, U.length + V.length ≤ N → Key w p g ca mm cc cs → Nums w B (.slice (some ⟨g, 0, none⟩) n c) (X ++ U ++ V ++ Y) → (∀ x ∈ U ++ V, x < mm) → Asc cs U → Asc cs V → X.length = a → a + U.length = m → m + V.length = b → 0 < U.length → 0 < V.length → n ≤ 1000 →
    Calls Try.prog 74 #[.slice (some ⟨g, 0, none⟩) n c, .int .i64 (a : Nat), .int .i64 (m : Nat), .int .i64 (b : Nat), usedV p] w fun e w' => e = .returned (.tuple #[]) ∧ (∃ Z, Z.Perm (U ++ V) ∧ Asc cs Z ∧ Nums w' B (.slice (some ⟨g, 0, none⟩) n c) (X ++ Z ++ Y)) ∧ ButOf (fun x => x = g) w w'
  | 0, _, _, _, _, _, _, _, _, _, _, _, _, _, _, U, _, _, h, _, _, _, _, _, _, _, _, hu, _, _ => by omega
  | N + 1, w, B, p, g, n, c, a, m, b, ca, mm, cc, cs, X, U, V, Y, hN, hk, h, hlt, hU, hV, ha, hm, hb, hu, hv, hn => by
    by_cases h1 : U.length = 1
    · obtain ⟨u, rfl⟩ : ∃ u, U = [u] := List.length_eq_one_iff.1 h1
      exact symOneL_any hk (by simpa using h) (hlt u (by simp)) (fun x hx => hlt x (List.mem_append_right _ hx)) hV ha (by simpa using hm) hb hn
    · by_cases h2 : V.length = 1
      · obtain ⟨v, rfl⟩ : ∃ v, V = [v] := List.length_eq_one_iff.1 h2
        refine (symOneR_any hk (by simpa using h) (hlt v (by simp)) (fun x hx => hlt x (List.mem_append_left _ hx)) hU ha hm (by simpa using hb) (by omega) hn).mono ?_
        rintro e w' ⟨rfl, ⟨Z, hp, hz, hZ⟩, hB⟩
        exact ⟨rfl, ⟨Z, hp.trans (List.perm_append_singleton v U).symm, hz, hZ⟩, hB⟩
      · exact symGen_any (fun hlt' hk' h' hl' hU' hV' ha' hm' hb' hu' hv' hn' => symMerge_any N (by omega) hk' h' hl' hU' hV' ha' hm' hb' hu' hv' hn') hk h hlt hU hV ha hm hb (by omega) (by omega) hn
end Go.Proofs.Ytdfoimgckahjpaa
