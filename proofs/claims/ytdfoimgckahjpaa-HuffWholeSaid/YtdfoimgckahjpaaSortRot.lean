/-
  rotate and the insertion sort of slices.SortStableFunc at []int. No conditions.
-/
import Derived.Test.YtdfoimgckahjpaaSortRow
namespace Go.Proofs.Ytdfoimgckahjpaa
open Go.RowKit
set_option maxRecDepth 100000 in
set_option maxHeartbeats 1000000 in
theorem rotate_any {w : World} {B g n c a m b : Nat} {X U V Y : List Nat} (fv : Value) (h : Nums w B (.slice (some ⟨g, 0, none⟩) n c) (X ++ U ++ V ++ Y)) (ha : X.length = a) (hm : X.length + U.length = m) (hb : X.length + U.length + V.length = b) (hU : 0 < U.length) (hV : 0 < V.length) (hn : n ≤ 1000) :
    Calls Try.prog 76 #[.slice (some ⟨g, 0, none⟩) n c, .int .i64 (a : Nat), .int .i64 (m : Nat), .int .i64 (b : Nat), fv] w fun e w' => e = .returned (.tuple #[]) ∧ Nums w' B (.slice (some ⟨g, 0, none⟩) n c) (X ++ V ++ U ++ Y) ∧ ButOf (fun x => x = g) w w' := by
  have hnl := h.len
  simp only [List.length_append] at hnl
  have hi0 : (m : Int) - (a : Int) = (U.length : Int) := by omega
  have hj0 : (b : Int) - (m : Int) = (V.length : Int) := by omega
  have hmn : (m : Int) ≤ 1000 := by omega
  have hbn : (b : Int) ≤ 1000 := by omega
  have hmb : m + V.length ≤ n := by omega
  obtain ⟨T, hT⟩ : ∃ T, X ++ V ++ U ++ Y = T := ⟨_, rfl⟩
  rw [hT]
  have hst : ∃ (X' P Q Y' : List Nat), P.length = U.length ∧ Q.length = V.length ∧ X'.length + U.length = m ∧ X' ++ P ++ Q ++ Y' = X ++ U ++ V ++ Y ∧ X' ++ Q ++ P ++ Y' = T := ⟨X, U, V, Y, rfl, rfl, hm, rfl, hT⟩
  obtain ⟨i0, hi1⟩ : ∃ i, U.length = i := ⟨_, rfl⟩
  obtain ⟨j0, hj1⟩ : ∃ j, V.length = j := ⟨_, rfl⟩
  rw [hi1] at hi0 hU hst
  rw [hj1] at hj0 hV hmb hst
  have him : i0 ≤ m := by omega
  replace hst := Lib.hid hst
  clear ha hm hb hnl hT hi1 hj1
  go_enter Try.func76, Try.ntmps76
  go_wp2_with fail
  go_loopw [10, 11] (fun v10 v11 wr => ∃ i j : Nat, 0 < i ∧ 0 < j ∧ i ≤ m ∧ m + j ≤ n ∧ v10 = .int .i64 i ∧ v11 = .int .i64 j ∧ ButOf (fun x => x = g) w wr ∧ ∃ L, Nums wr B (.slice (some ⟨g, 0, none⟩) n c) L ∧ Hid (∃ (X' P Q Y' : List Nat), P.length = i ∧ Q.length = j ∧ X'.length + i = m ∧ X' ++ P ++ Q ++ Y' = L ∧ X' ++ Q ++ P ++ Y' = T)) (fun v10 v11 _ => (intOf v10).toNat + (intOf v11).toNat)
  case atStart => exact ⟨i0, j0, hU, hV, him, hmb, rfl, rfl, ButOf.refl _ _, _, h, hst⟩
  case round =>
    obtain ⟨i, j, hip, hjp, him, hjn, rfl, rfl, hB, L, hN, hD⟩ := hrel
    obtain ⟨X', P, Q, Y', hP, hQ, hX, rfl, hT⟩ := hD.out
    have hmI : (m : Int) ≤ 1000 := by omega
    have hiI : (0 : Int) < (i : Int) := by omega
    have hjI : (0 : Int) < (j : Int) := by omega
    have hiM : (i : Int) ≤ (m : Int) := by omega
    have hjM : (j : Int) ≤ 1000 := by omega
    obtain ⟨p, hp⟩ : ∃ p, m - i = p := ⟨_, rfl⟩
    have hpI : (m : Int) - (i : Int) = (p : Int) := by omega
    by_cases hij : i = j
    · subst hij
      have hne : ((i : Int) != (i : Int)) = false := by simp
      have hsw := swapRange_any (a := p) (b := m) (k := i) (X := X') (A := P) (M := []) (D := Q) (Y := Y') fv (by simpa using hN) (by omega) (by omega) (by rw [List.length_nil]; omega) hP hn
      rw [List.append_nil, hT] at hsw
      replace hsw := Lib.hid hsw
      replace hp := Lib.hid hp
      clear hN hD hP hQ hX hT
      go_wp2_with (go_at_call 78; refine hsw.out.mono ?_; rintro e w2 ⟨rfl, hN2, hB2⟩)
      go_end0
      exact ⟨rfl, hN2, hB.trans hB2⟩
    · have hne : ((i : Int) != (j : Int)) = true := by simp; omega
      by_cases hlt : j < i
      · have hltI : (j : Int) < (i : Int) := by omega
        obtain ⟨q, hq⟩ : ∃ q, i - j = q := ⟨_, rfl⟩
        have hqI : (i : Int) - (j : Int) = (q : Int) := by omega
        have hP1 : (P.take j).length = j := by rw [List.length_take]; omega
        have hP2 : (P.drop j).length = q := by rw [List.length_drop]; omega
        have hPs := List.take_append_drop j P
        have hsw := swapRange_any (w := wr) (B := B) (g := g) (n := n) (c := c) (a := p) (b := m) (k := j) (X := X') (A := P.take j) (M := P.drop j) (D := Q) (Y := Y') fv (by rw [List.append_assoc X', hPs]; exact hN) (by omega) (by omega) (by omega) hP1 hn
        have hnew : Hid (∃ (X'' P' Q' Y'' : List Nat), P'.length = q ∧ Q'.length = j ∧ X''.length + q = m ∧ X'' ++ P' ++ Q' ++ Y'' = X' ++ Q ++ P.drop j ++ P.take j ++ Y' ∧ X'' ++ Q' ++ P' ++ Y'' = T) :=
          Lib.hid ⟨X' ++ Q, P.drop j, P.take j, Y', hP2, hP1, by rw [List.length_append]; omega, rfl, by rw [← hT]; rw [List.append_assoc (X' ++ Q), hPs]⟩
        have hms : (intOf (.int .i64 (q : Int))).toNat + (intOf (.int .i64 (j : Int))).toNat < (intOf (.int .i64 (i : Int))).toNat + (intOf (.int .i64 (j : Int))).toNat := by simp [intOf]; omega
        have hq0 : 0 < q := by omega
        have hqm : q ≤ m := by omega
        replace hsw := Lib.hid hsw
        replace hms := Lib.hid hms
        replace hp := Lib.hid hp
        replace hq := Lib.hid hq
        clear hN hD hP hQ hX hT hP1 hP2 hPs
        go_wp2_with (go_at_call 78; refine hsw.out.mono ?_; rintro e w2 ⟨rfl, hN2, hB2⟩)
        go_roundw
        case rel => exact ⟨q, j, hq0, hjp, hqm, hjn, rfl, rfl, hB.trans hB2, _, hN2, hnew⟩
        case measure => exact hms.out
      · have hltI : ¬ ((j : Int) < (i : Int)) := by omega
        obtain ⟨q, hq⟩ : ∃ q, j - i = q := ⟨_, rfl⟩
        have hqI : (j : Int) - (i : Int) = (q : Int) := by omega
        have hmq : (m : Int) + (j : Int) - (i : Int) = ((m + q : Nat) : Int) := by omega
        have hQ1 : (Q.take q).length = q := by rw [List.length_take]; omega
        have hQ2 : (Q.drop q).length = i := by rw [List.length_drop]; omega
        have hQs := List.take_append_drop q Q
        have hsw := swapRange_any (w := wr) (B := B) (g := g) (n := n) (c := c) (a := p) (b := m + q) (k := i) (X := X') (A := P) (M := Q.take q) (D := Q.drop q) (Y := Y') fv (by rw [List.append_assoc (X' ++ P), hQs]; exact hN) (by omega) (by omega) (by omega) hP hn
        have hnew : Hid (∃ (X'' P' Q' Y'' : List Nat), P'.length = i ∧ Q'.length = q ∧ X''.length + i = m ∧ X'' ++ P' ++ Q' ++ Y'' = X' ++ Q.drop q ++ Q.take q ++ P ++ Y' ∧ X'' ++ Q' ++ P' ++ Y'' = T) :=
          Lib.hid ⟨X', Q.drop q, Q.take q, P ++ Y', hQ2, hQ1, hX, by simp, by rw [← hT]; rw [List.append_assoc X', hQs]; simp⟩
        have hms : (intOf (.int .i64 (i : Int))).toNat + (intOf (.int .i64 (q : Int))).toNat < (intOf (.int .i64 (i : Int))).toNat + (intOf (.int .i64 (j : Int))).toNat := by simp [intOf]; omega
        have hq0 : 0 < q := by omega
        have hqn : m + q ≤ n := by omega
        obtain ⟨mq, hmqe⟩ : ∃ x, m + q = x := ⟨_, rfl⟩
        rw [hmqe] at hsw hmq
        replace hmqe := Lib.hid hmqe
        replace hsw := Lib.hid hsw
        replace hms := Lib.hid hms
        replace hp := Lib.hid hp
        replace hq := Lib.hid hq
        clear hN hD hP hQ hX hT hQ1 hQ2 hQs
        go_wp2_with (go_at_call 78; refine hsw.out.mono ?_; rintro e w2 ⟨rfl, hN2, hB2⟩)
        go_roundw
        case rel => exact ⟨i, q, hip, hq0, him, hqn, rfl, rfl, hB.trans hB2, _, hN2, hnew⟩
        case measure => exact hms.out
/-- ascending by their keys -/
def Asc (cs : Nat → Nat) (l : List Nat) : Prop := l.Pairwise fun a b => cs a ≤ cs b
theorem Asc.append {cs : Nat → Nat} {U V : List Nat} (h1 : Asc cs U) (h2 : Asc cs V) (h3 : ∀ u ∈ U, ∀ v ∈ V, cs u ≤ cs v) : Asc cs (U ++ V) := List.pairwise_append.2 ⟨h1, h2, h3⟩
theorem Asc.left {cs : Nat → Nat} {U V : List Nat} (h : Asc cs (U ++ V)) : Asc cs U := (List.pairwise_append.1 h).1
theorem Asc.right {cs : Nat → Nat} {U V : List Nat} (h : Asc cs (U ++ V)) : Asc cs V := (List.pairwise_append.1 h).2.1
theorem Asc.cross {cs : Nat → Nat} {U V : List Nat} (h : Asc cs (U ++ V)) : ∀ u ∈ U, ∀ v ∈ V, cs u ≤ cs v := (List.pairwise_append.1 h).2.2
theorem snoc_of {S : List Nat} (h : 0 < S.length) : ∃ S' y, S = S' ++ [y] := ⟨S.dropLast, S.getLast (by intro e; rw [e] at h; simp at h), (List.dropLast_concat_getLast _).symm⟩
set_option maxRecDepth 100000 in
set_option maxHeartbeats 2000000 in
theorem insSort_any {w : World} {B p g n c a b : Nat} {ca : Option Addr} {mm cc : Nat} {cs : Nat → Nat} {X U Y : List Nat} (hk : Key w p g ca mm cc cs) (h : Nums w B (.slice (some ⟨g, 0, none⟩) n c) (X ++ U ++ Y)) (hlt : ∀ x ∈ U, x < mm) (ha : X.length = a) (hb : X.length + U.length = b) (hn : n ≤ 1000) :
    Calls Try.prog 73 #[.slice (some ⟨g, 0, none⟩) n c, .int .i64 (a : Nat), .int .i64 (b : Nat), usedV p] w fun e w' => e = .returned (.tuple #[]) ∧ (∃ U', U'.Perm U ∧ Asc cs U' ∧ Nums w' B (.slice (some ⟨g, 0, none⟩) n c) (X ++ U' ++ Y)) ∧ ButOf (fun x => x = g) w w' := by
  have hnl := h.len
  simp only [List.length_append] at hnl
  have hbn : b ≤ n := by omega
  have hnI : (n : Int) ≤ 1000 := by omega
  have hbI : (b : Int) ≤ (n : Int) := by omega
  have haI : (a : Int) ≤ (b : Int) := by omega
  have hU := hb
  replace hU : Hid (U.length = b - a) := Lib.hid (by omega)
  have hX := Lib.hid ha
  have hltH := Lib.hid hlt
  clear ha hb hnl hlt
  unfold usedV
  go_enter Try.func73, Try.ntmps73
  go_wp2_with fail
  go_loopw [8] (fun v8 wr => ∃ i : Nat, a < i ∧ v8 = .int .i64 i ∧ i ≤ b + 1 ∧ ButOf (fun x => x = g) w wr ∧ ∃ L, Nums wr B (.slice (some ⟨g, 0, none⟩) n c) L ∧ Hid (∃ S, S.Perm (U.take (i - a)) ∧ Asc cs S ∧ L = X ++ S ++ U.drop (i - a) ++ Y)) (fun v8 _ => b + 1 - (intOf v8).toNat)
  case atStart =>
    refine ⟨a + 1, by omega, by simp, by omega, ButOf.refl _ _, _, h, Lib.hid ⟨U.take 1, ?_, ?_, ?_⟩⟩
    · rw [show a + 1 - a = 1 by omega]
    · cases U with
      | nil => exact List.Pairwise.nil
      | cons x r => exact List.pairwise_singleton _ _
    · rw [show a + 1 - a = 1 by omega, List.append_assoc X (List.take 1 U), List.take_append_drop]
  case round =>
    obtain ⟨i, hai, rfl, hib, hB, L, hN, hS⟩ := hrel
    have hiI : (a : Int) < (i : Int) := by omega
    by_cases hlt : i < b
    · have hltI : (i : Int) < (b : Int) := by omega
      have hms : b + 1 - (intOf (.int .i64 ((i : Int) + 1))).toNat < b + 1 - (intOf (.int .i64 (i : Int))).toNat := by simp [intOf]; omega
      replace hms := Lib.hid hms
      obtain ⟨S, hS1, hS2, rfl⟩ := hS.out
      have hiU : i - a < U.length := by rw [hU.out]; omega
      have hSl : S.length = i - a := by rw [hS1.length_eq, List.length_take]; omega
      obtain ⟨x, hx⟩ : ∃ x, U.getD (i - a) 0 = x := ⟨_, rfl⟩
      have hdr : U.drop (i - a) = x :: U.drop (i - a + 1) := by rw [List.drop_eq_getElem_cons hiU, ← hx, List.getD_eq_getElem?_getD, List.getElem?_eq_getElem hiU]; rfl
      have htk : U.take (i - a + 1) = U.take (i - a) ++ [x] := by rw [List.take_succ_eq_append_getElem hiU, ← hx, List.getD_eq_getElem?_getD, List.getElem?_eq_getElem hiU]; rfl
      have hxm : x < mm := hltH.out x (by rw [← List.take_append_drop (i - a) U, hdr]; simp)
      have hSm : ∀ y ∈ S, y < mm := fun y hy => hltH.out y (List.mem_of_mem_take (hS1.mem_iff.1 hy))
      rw [hdr] at hN
      obtain ⟨R, hR⟩ : ∃ R, U.drop (i - a + 1) ++ Y = R := ⟨_, rfl⟩
      have hN' : Nums wr B (.slice (some ⟨g, 0, none⟩) n c) (X ++ S ++ x :: R) := by rw [← hR]; simpa using hN
      have hia1 : i + 1 - a = i - a + 1 := by omega
      clear hN hS
      go_wp2_with fail
      go_loopw [9] (fun v9 wr2 => ∃ j : Nat, a ≤ j ∧ j ≤ i ∧ v9 = .int .i64 j ∧ ButOf (fun x => x = g) w wr2 ∧ ∃ L, Nums wr2 B (.slice (some ⟨g, 0, none⟩) n c) L ∧ Hid (∃ S1 S2, S = S1 ++ S2 ∧ S1.length = j - a ∧ (∀ y ∈ S2, cs x < cs y) ∧ L = X ++ S1 ++ x :: (S2 ++ R))) (fun v9 _ => (intOf v9).toNat)
      case atStart => exact ⟨i, by omega, Nat.le_refl _, rfl, hB, _, hN', Lib.hid ⟨S, [], by simp, hSl, by simp, by simp⟩⟩
      case round =>
        obtain ⟨j, haj, hji, rfl, hB2, L, hN2, hS12⟩ := hrel
        obtain ⟨S1, S2, hSS, hS1l, hgt, rfl⟩ := hS12.out
        have hfin : ∀ (hcond : S1 = [] ∨ ∃ S1' y, S1 = S1' ++ [y] ∧ cs y ≤ cs x), Hid (∃ S', S'.Perm (U.take (i + 1 - a)) ∧ Asc cs S' ∧ X ++ S1 ++ x :: (S2 ++ R) = X ++ S' ++ U.drop (i + 1 - a) ++ Y) := fun hcond => by
          refine Lib.hid ⟨S1 ++ x :: S2, ?_, ?_, ?_⟩
          · rw [hia1, htk]
            have e1 : (S1 ++ x :: S2).Perm (x :: S) := by rw [hSS]; exact List.perm_middle
            exact e1.trans ((hS1.cons x).trans (List.perm_append_singleton x _).symm)
          · rw [hSS] at hS2
            refine List.pairwise_append.2 ⟨hS2.left, List.pairwise_cons.2 ⟨fun y hy => Nat.le_of_lt (hgt y hy), hS2.right⟩, fun y hy z hz => ?_⟩
            rcases List.mem_cons.1 hz with e | e
            · subst e
              rcases hcond with e | ⟨S1', y', e, hle⟩
              · rw [e] at hy; cases hy
              · rw [e] at hy
                rcases List.mem_append.1 hy with e2 | e2
                · have h3 := hS2.left
                  rw [e] at h3
                  exact Nat.le_trans (h3.cross y e2 y' (by simp)) hle
                · rw [List.mem_singleton] at e2; subst e2; exact hle
            · exact hS2.cross y hy z e
          · rw [hia1, ← hR]; simp
        by_cases hja : a < j
        · have hjaI : (a : Int) < (j : Int) := by omega
          have hjI : (j : Int) ≤ (i : Int) := by omega
          obtain ⟨S1', y, rfl⟩ := snoc_of (S := S1) (by omega)
          have hym : y < mm := hSm y (by rw [hSS]; simp)
          have hl1 : S1'.length + 1 = j - a := by rw [← hS1l]; simp
          obtain ⟨j1, hj1⟩ : ∃ j1, j - 1 = j1 := ⟨_, rfl⟩
          have hj1I : (j : Int) - 1 = (j1 : Int) := by omega
          have ex : X ++ (S1' ++ [y]) ++ x :: (S2 ++ R) = (X ++ S1') ++ y :: x :: (S2 ++ R) := by simp
          have ep : (X ++ S1').length = j1 := by rw [List.length_append, hX.out]; omega
          have ep2 : (X ++ (S1' ++ [y])).length = j := by rw [List.length_append, hX.out]; simp; omega
          have hjl : j < (X ++ (S1' ++ [y]) ++ x :: (S2 ++ R)).length := by simp only [List.length_append, List.length_cons] at ep2 ⊢; omega
          have cj := hN2.at_ hjl
          have cj1 := hN2.at_ (k := j1) (by omega)
          have e1 : (X ++ (S1' ++ [y]) ++ x :: (S2 ++ R)).getD j 0 = x := by rw [← ep2, get_mid]
          have e2 : (X ++ (S1' ++ [y]) ++ x :: (S2 ++ R)).getD j1 0 = y := by rw [ex, ← ep, get_mid]
          rw [e1] at cj
          rw [e2] at cj1
          have hjn : j < n := by have := hN2.len; omega
          have hjnI : (j : Int) < (n : Int) := by omega
          have hj1n : (j1 : Int) < (n : Int) := by omega
          have hj0 : (0 : Int) ≤ (j1 : Int) := by omega
          have hka := hk.but hB2
          have hcmp := Lib.hid (fun m => used1_any x y (hka.drewN m) hxm hym)
          have hmsj : (intOf (.int .i64 (j1 : Int))).toNat < (intOf (.int .i64 (j : Int))).toNat := by simp [intOf]; omega
          replace hmsj := Lib.hid hmsj
          by_cases hc : cs x < cs y
          · have hcI : (cs x : Int) - (cs y : Int) < 0 := by omega
            have hcd : decide ((cs x : Int) - (cs y : Int) < 0) = true := decide_eq_true hcI
            have hN3 := (hN2.set hjl y).set (k := j1) (by rw [List.length_set]; omega) x
            have e3 : ((X ++ (S1' ++ [y]) ++ x :: (S2 ++ R)).set j y).set j1 x = X ++ S1' ++ x :: ((y :: S2) ++ R) := by
              rw [← ep2, set_mid, show X ++ (S1' ++ [y]) ++ y :: (S2 ++ R) = (X ++ S1') ++ y :: y :: (S2 ++ R) by simp, ← ep, set_mid]; simp
            rw [e3] at hN3
            have hS3 : Hid (∃ S1 S3, S = S1 ++ S3 ∧ S1.length = j1 - a ∧ (∀ z ∈ S3, cs x < cs z) ∧ X ++ S1' ++ x :: ((y :: S2) ++ R) = X ++ S1 ++ x :: (S3 ++ R)) :=
              Lib.hid ⟨S1', y :: S2, by rw [hSS]; simp, by omega, fun z hz => by rcases List.mem_cons.1 hz with e | e; (subst e; exact hc); exact hgt z e, rfl⟩
            have hcp := Lib.hid (fun W (hW : Nums W B (.slice (some ⟨g, 0, none⟩) n c) (X ++ (S1' ++ [y]) ++ x :: (S2 ++ R))) => And.intro (e1 ▸ hW.at_ hjl) (And.intro (e2 ▸ hW.at_ (k := j1) (by omega)) (And.intro hW.sput (e3 ▸ (hW.set hjl y).set (k := j1) (by rw [List.length_set]; omega) x))))
            replace hj1 := Lib.hid hj1
            clear hN3 e1 e2 e3 ex ep ep2 hjl hka hSS hS1l hgt hS12 hc hfin hSm hl1 hN'
            go_wp2_with fail
            go_quiet ((go_at_call 65; exact Calls.quiet_of (hcmp.out _)))
            have hN4 := hN2.below (below_drewN (Below.refl _ _) nq)
            have hB4 := hB2.drewN nq
            clear cj cj1 hN2 hB2 hcmp
            generalize wr.drewN nq = w4 at *
            obtain ⟨cj, cj1, ⟨cx, kb⟩, hN5⟩ := hcp.out _ hN4
            have f1 := kb.free j none
            have f2 := kb.free j1 none
            have hB5 : ButOf (fun x => x = g) w ((w4.setCell ⟨g, j, none⟩ (.int .i64 (y : Nat))).setCell ⟨g, j1, none⟩ (.int .i64 (x : Nat))) := (hB4.set _ (Or.inl rfl)).set _ (Or.inl rfl)
            obtain ⟨v', hy'⟩ := cell?_setCell_some (w := w4) (p := ⟨g, j, none⟩) (x := .int .i64 (y : Nat)) (q := ⟨g, j1, none⟩) cj1
            clear kb hN4 hB4 hcp
            go_wp2_with fail
            go_region
            go_wp2_with fail
            go_roundw
            case rel => exact ⟨j1, by have := hj1.out; omega, by have := hj1.out; omega, rfl, hB5.drew, _, hN5.below (Below.refl _ _).drew, hS3⟩
            case measure => exact hmsj.out
          · have hcI : ¬ ((cs x : Int) - (cs y : Int) < 0) := by omega
            have hcd : decide ((cs x : Int) - (cs y : Int) < 0) = false := decide_eq_false hcI
            have hS4 := hfin (Or.inr ⟨S1', y, rfl, by omega⟩)
            replace hj1 := Lib.hid hj1
            clear e1 e2 ex ep ep2 hjl hka hSS hS1l hgt hS12 hc hfin hSm hl1 hN'
            go_wp2_with fail
            go_quiet ((go_at_call 65; exact Calls.quiet_of (hcmp.out _)))
            go_wp2_with fail
            go_roundw
            case rel => exact ⟨i + 1, by omega, by simp, by omega, hB2.drewN _, _, hN2.below (below_drewN (Below.refl _ _) _), hS4⟩
            case measure => exact hms.out
        · have hjaI : ¬ ((a : Int) < (j : Int)) := by omega
          have hS4 := hfin (Or.inl (List.eq_nil_of_length_eq_zero (by omega)))
          have hjd : decide ((a : Int) < (j : Int)) = false := decide_eq_false hjaI
          clear hSS hS1l hgt hS12 hfin hSm hN'
          go_wp2_with fail
          go_quiet (fail)
          go_wp2_with fail
          go_roundw
          case rel => exact ⟨i + 1, by omega, by simp, by omega, hB2.drewN _, _, hN2.below (below_drewN (Below.refl _ _) _), hS4⟩
          case measure => exact hms.out
    · have hltI : ¬ ((i : Int) < (b : Int)) := by omega
      obtain ⟨S, hS1, hS2, rfl⟩ := hS.out
      rw [List.drop_of_length_le (by rw [hU.out]; omega), List.append_nil] at hN
      rw [List.take_of_length_le (by rw [hU.out]; omega)] at hS1
      clear hS hlt
      go_wp2_with fail
      go_end0
      exact ⟨rfl, ⟨S, hS1, hS2, by simpa using hN⟩, hB⟩
end Go.Proofs.Ytdfoimgckahjpaa
