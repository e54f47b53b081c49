/-
  symMerge of slices.SortStableFunc at []int, where one side has one element. No conditions.
-/
import Derived.Test.YtdfoimgckahjpaaSortRot
namespace Go.Proofs.Ytdfoimgckahjpaa
open Go.RowKit
theorem n_getD_app_left {X Y : List Nat} {k : Nat} (h : k < X.length) : (X ++ Y).getD k 0 = X.getD k 0 := by
  rw [List.getD_eq_getElem?_getD, List.getElem?_append_left h, ← List.getD_eq_getElem?_getD]
theorem n_getD_app_right {X Y : List Nat} {k j : Nat} (h : X.length + j = k) : (X ++ Y).getD k 0 = Y.getD j 0 := by
  rw [List.getD_eq_getElem?_getD, List.getElem?_append_right (by omega), ← List.getD_eq_getElem?_getD]; congr 1; omega
theorem n_getD_mem {l : List Nat} {k : Nat} (h : k < l.length) : l.getD k 0 ∈ l := by
  rw [List.getD_eq_getElem?_getD, List.getElem?_eq_getElem h]; exact List.getElem_mem h
theorem Asc.at_ {cs : Nat → Nat} {l : List Nat} (h : Asc cs l) {i j : Nat} (hij : i ≤ j) (hj : j < l.length) : cs (l.getD i 0) ≤ cs (l.getD j 0) := by
  rcases Nat.eq_or_lt_of_le hij with e | e
  · rw [e]; exact Nat.le_refl _
  · have := List.pairwise_iff_getElem.1 h i j (by omega) hj e
    rw [List.getD_eq_getElem?_getD, List.getElem?_eq_getElem (by omega), List.getD_eq_getElem?_getD, List.getElem?_eq_getElem hj]
    exact this
theorem Asc.take_le {cs : Nat → Nat} {l : List Nat} (h : Asc cs l) {i k : Nat} (hi : i ≤ l.length) (hk : i = 0 ∨ cs (l.getD (i - 1) 0) ≤ k) : ∀ x ∈ l.take i, cs x ≤ k := fun x hx => by
  obtain ⟨j, hj⟩ := List.mem_iff_getElem?.1 hx
  rw [List.getElem?_take] at hj
  split at hj
  · rename_i hji
    obtain ⟨hjl, e⟩ := List.getElem?_eq_some_iff.1 hj
    rcases hk with e0 | e0
    · omega
    · have := h.at_ (i := j) (j := i - 1) (by omega) (by omega)
      rw [List.getD_eq_getElem?_getD, List.getElem?_eq_getElem hjl, e] at this
      exact Nat.le_trans this e0
  · cases hj
theorem Asc.drop_ge {cs : Nat → Nat} {l : List Nat} (h : Asc cs l) {i k : Nat} (hk : i = l.length ∨ k ≤ cs (l.getD i 0)) : ∀ x ∈ l.drop i, k ≤ cs x := fun x hx => by
  obtain ⟨j, hj⟩ := List.mem_iff_getElem?.1 hx
  rw [List.getElem?_drop] at hj
  obtain ⟨hjl, e⟩ := List.getElem?_eq_some_iff.1 hj
  rcases hk with e0 | e0
  · omega
  · have := h.at_ (i := i) (j := i + j) (by omega) hjl
    rw [List.getD_eq_getElem?_getD, List.getD_eq_getElem?_getD, List.getElem?_eq_getElem hjl, e] at this
    rw [List.getD_eq_getElem?_getD] at e0
    exact Nat.le_trans e0 this
theorem Asc.ins {cs : Nat → Nat} {V : List Nat} {u i : Nat} (h : Asc cs V) (hi : i ≤ V.length) (h1 : i = 0 ∨ cs (V.getD (i - 1) 0) ≤ cs u) (h2 : i = V.length ∨ cs u ≤ cs (V.getD i 0)) : Asc cs (V.take i ++ u :: V.drop i) := by
  have hs : Asc cs (V.take i ++ V.drop i) := by rw [List.take_append_drop]; exact h
  refine List.pairwise_append.2 ⟨hs.left, List.pairwise_cons.2 ⟨h.drop_ge h2, hs.right⟩, fun x hx y hy => ?_⟩
  rcases List.mem_cons.1 hy with e | e
  · subst e; exact h.take_le hi h1 x hx
  · exact hs.cross x hx y e
/-- two cells side by side are exchanged -/
theorem swap_next {P Q : List Nat} {x y k : Nat} (hk : P.length = k) : (P ++ x :: y :: Q).getD k 0 = x ∧ (P ++ x :: y :: Q).getD (k + 1) 0 = y ∧ ((P ++ x :: y :: Q).set k y).set (k + 1) x = P ++ y :: x :: Q ∧ ((P ++ x :: y :: Q).set (k + 1) x).set k y = P ++ y :: x :: Q ∧ k + 1 < (P ++ x :: y :: Q).length := by
  subst hk
  have e : ∀ z, P ++ z :: y :: Q = (P ++ [z]) ++ y :: Q := fun z => by simp
  have e' : ∀ z, P ++ x :: z :: Q = (P ++ [x]) ++ z :: Q := fun z => by simp
  have l : ∀ z : Nat, P.length + 1 = (P ++ [z]).length := fun z => by simp
  refine ⟨get_mid _ _ _, ?_, ?_, ?_, ?_⟩
  · rw [e, l x, get_mid]
  · rw [set_mid, e, l y, set_mid]; simp
  · rw [e', l x, set_mid, ← e' x, set_mid]
  · simp
set_option maxRecDepth 100000 in
set_option maxHeartbeats 2000000 in
theorem symOneL_any {w : World} {B p g n c a m b u : Nat} {ca : Option Addr} {mm cc : Nat} {cs : Nat → Nat} {X V Y : List Nat} (hk : Key w p g ca mm cc cs) (h : Nums w B (.slice (some ⟨g, 0, none⟩) n c) (X ++ u :: (V ++ Y))) (hu : u < mm) (hlt : ∀ x ∈ V, x < mm) (hV : Asc cs V) (ha : X.length = a) (hm : a + 1 = m) (hb : m + V.length = b) (hn : n ≤ 1000) :
    Calls Try.prog 74 #[.slice (some ⟨g, 0, none⟩) n c, .int .i64 (a : Nat), .int .i64 (m : Nat), .int .i64 (b : Nat), usedV p] w fun e w' => e = .returned (.tuple #[]) ∧ (∃ Z, Z.Perm (u :: V) ∧ Asc cs Z ∧ Nums w' B (.slice (some ⟨g, 0, none⟩) n c) (X ++ Z ++ Y)) ∧ ButOf (fun x => x = g) w w' := by
  have hnl := h.len
  simp only [List.length_append, List.length_cons] at hnl
  have hnI : (n : Int) ≤ 1000 := by omega
  have hbn : b ≤ n := by omega
  have hma : (m : Int) - (a : Int) = 1 := by omega
  have hL : (X ++ u :: (V ++ Y)).length = n := by simp only [List.length_append, List.length_cons]; omega
  have hVat : ∀ k, k < V.length → (X ++ u :: (V ++ Y)).getD (m + k) 0 = V.getD k 0 := fun k hk => by
    rw [show X ++ u :: (V ++ Y) = (X ++ [u]) ++ (V ++ Y) by simp, n_getD_app_right (j := k) (by simp; omega), n_getD_app_left hk]
  have hUat : (X ++ u :: (V ++ Y)).getD a 0 = u := by rw [← ha, get_mid]
  obtain ⟨L, hLe⟩ : ∃ L, X ++ u :: (V ++ Y) = L := ⟨_, rfl⟩
  rw [hLe] at h hL hVat hUat
  replace hnl := Lib.hid hnl
  replace hVat := Lib.hid hVat
  replace hUat := Lib.hid hUat
  replace hL := Lib.hid hL
  replace hLe := Lib.hid hLe
  replace ha := Lib.hid ha
  unfold usedV
  go_enter Try.func74, Try.ntmps74
  go_wp2_with fail
  go_loopw [10, 11] (fun v10 v11 wr => ∃ i j : Nat, m ≤ i ∧ i ≤ j ∧ j ≤ b ∧ v10 = .int .i64 i ∧ v11 = .int .i64 j ∧ Hid (i = m ∨ cs (V.getD (i - 1 - m) 0) ≤ cs u) ∧ Hid (j = b ∨ cs u ≤ cs (V.getD (j - m) 0)) ∧ Nums wr B (.slice (some ⟨g, 0, none⟩) n c) L ∧ ButOf (fun x => x = g) w wr) (fun v10 v11 _ => (intOf v11).toNat - (intOf v10).toNat)
  case atStart => exact ⟨m, b, Nat.le_refl _, by omega, Nat.le_refl _, rfl, rfl, Lib.hid (Or.inl rfl), Lib.hid (Or.inl rfl), h, ButOf.refl _ _⟩
  case round =>
    obtain ⟨i, j, hmi, hij, hjb, rfl, rfl, hi, hj, hN, hB⟩ := hrel
    have hiI : (i : Int) ≤ (j : Int) := by omega
    have hjI : (j : Int) ≤ 1000 := by omega
    by_cases hlt2 : i < j
    · have hlI : (i : Int) < (j : Int) := by omega
      obtain ⟨s, hs⟩ : ∃ s, i + j = s := ⟨_, rfl⟩
      obtain ⟨d, hd⟩ : ∃ d, s / 2 = d := ⟨_, rfl⟩
      have hsI : (i : Int) + (j : Int) = (s : Int) := by omega
      have hsb : (s : Int) ≤ 2000 := by omega
      have hdI : (s : Int) / 2 = (d : Int) := by omega
      have hdi : i ≤ d ∧ d < j := by omega
      have hdn : (d : Int) < (n : Int) := by omega
      have han : (a : Int) < (n : Int) := by omega
      have hdV : d - m < V.length := by omega
      obtain ⟨x, hx⟩ : ∃ x, V.getD (d - m) 0 = x := ⟨_, rfl⟩
      have hxm : x < mm := hx ▸ hlt _ (n_getD_mem hdV)
      have cd := hN.at_ (k := d) (by rw [hL.out]; omega)
      have ca' := hN.at_ (k := a) (by rw [hL.out]; omega)
      rw [show d = m + (d - m) by omega, hVat.out _ hdV, hx, show m + (d - m) = d by omega] at cd
      rw [hUat.out] at ca'
      have hka := hk.but hB
      have hcmp := Lib.hid (fun q => used1_any x u (hka.drewN q) hxm hu)
      have hms1 : (intOf (.int .i64 (j : Int))).toNat - (intOf (.int .i64 ((d : Int) + 1))).toNat < (intOf (.int .i64 (j : Int))).toNat - (intOf (.int .i64 (i : Int))).toNat := by simp [intOf]; omega
      have hms2 : (intOf (.int .i64 (d : Int))).toNat - (intOf (.int .i64 (i : Int))).toNat < (intOf (.int .i64 (j : Int))).toNat - (intOf (.int .i64 (i : Int))).toNat := by simp [intOf]; omega
      replace hms1 := Lib.hid hms1
      replace hms2 := Lib.hid hms2
      replace hs := Lib.hid hs
      replace hd := Lib.hid hd
      by_cases hc : cs x < cs u
      · have hcI : (cs x : Int) - (cs u : Int) < 0 := by omega
        have hnx : Hid (d + 1 = m ∨ cs (V.getD (d + 1 - 1 - m) 0) ≤ cs u) := Lib.hid (Or.inr (by rw [show d + 1 - 1 - m = d - m by omega, hx]; omega))
        replace hx := Lib.hid hx
        clear hc hka
        go_wp2_with fail
        go_quiet ((go_at_call 65; exact Calls.quiet_of (hcmp.out _)))
        go_wp2_with fail
        go_roundw
        case rel => exact ⟨d + 1, j, by omega, by omega, hjb, by simp, rfl, hnx, hj, hN.below (below_drewN (Below.refl _ _) _), hB.drewN _⟩
        case measure => exact hms1.out
      · have hcI : ¬ ((cs x : Int) - (cs u : Int) < 0) := by omega
        have hnx : Hid (d = b ∨ cs u ≤ cs (V.getD (d - m) 0)) := Lib.hid (Or.inr (by rw [hx]; omega))
        replace hx := Lib.hid hx
        clear hc hka
        go_wp2_with fail
        go_quiet ((go_at_call 65; exact Calls.quiet_of (hcmp.out _)))
        go_wp2_with fail
        go_roundw
        case rel => exact ⟨i, d, by omega, by omega, by omega, rfl, rfl, hi, hnx, hN.below (below_drewN (Below.refl _ _) _), hB.drewN _⟩
        case measure => exact hms2.out
    · have hlI : ¬ ((i : Int) < (j : Int)) := by omega
      have hZ := hV.ins (u := u) (i := i - m) (by omega) (hi.out.imp (fun e => by omega) (fun e => by rw [show i - m - 1 = i - 1 - m by omega]; exact e)) (hj.out.imp (fun e => by omega) (fun e => by rw [show i - m = j - m by omega]; exact e))
      have hZp : (V.take (i - m) ++ u :: V.drop (i - m)).Perm (u :: V) := List.perm_middle.trans (by rw [List.take_append_drop])
      have hX := ha.out
      have hst : Nums wr B (.slice (some ⟨g, 0, none⟩) n c) (X ++ V.take (a - a) ++ u :: (V.drop (a - a) ++ Y)) := by rw [Nat.sub_self]; simpa using hLe.out ▸ hN
      have hin : (i : Int) ≤ (n : Int) := by omega
      have hi1 : (1 : Int) ≤ (i : Int) := by omega
      replace hZ := Lib.hid hZ
      replace hZp := Lib.hid hZp
      clear hN hi hj hlt2 hL hLe hVat hUat
      go_wp2_with fail
      go_loopw [13] (fun v13 wr2 => ∃ k : Nat, a ≤ k ∧ k + 1 ≤ i ∧ v13 = .int .i64 k ∧ Nums wr2 B (.slice (some ⟨g, 0, none⟩) n c) (X ++ V.take (k - a) ++ u :: (V.drop (k - a) ++ Y)) ∧ ButOf (fun x => x = g) w wr2) (fun v13 _ => i - (intOf v13).toNat)
      case atStart => exact ⟨a, Nat.le_refl _, by omega, rfl, hst, hB⟩
      case round =>
        obtain ⟨k, hak, hki, rfl, hN2, hB2⟩ := hrel
        clear hst hB
        by_cases hlt3 : k + 1 < i
        · have hkI : (k : Int) < (i : Int) - 1 := by omega
          have hkn : (k : Int) + 1 < (n : Int) := by omega
          have hkn2 : (k : Int) < (n : Int) := by omega
          have hkV : k - a < V.length := by omega
          obtain ⟨y, hy⟩ : ∃ y, V.getD (k - a) 0 = y := ⟨_, rfl⟩
          have hdr : V.drop (k - a) = y :: V.drop (k - a + 1) := by rw [List.drop_eq_getElem_cons hkV, ← hy, List.getD_eq_getElem?_getD, List.getElem?_eq_getElem hkV]; rfl
          have htk : V.take (k - a + 1) = V.take (k - a) ++ [y] := by rw [List.take_succ_eq_append_getElem hkV, ← hy, List.getD_eq_getElem?_getD, List.getElem?_eq_getElem hkV]; rfl
          rw [hdr] at hN2
          obtain ⟨s1, s2, s3, _, s5⟩ := swap_next (P := X ++ V.take (k - a)) (Q := V.drop (k - a + 1) ++ Y) (x := u) (y := y) (k := k) (by rw [List.length_append, List.length_take]; omega)
          rw [List.cons_append] at hN2
          have c1 := hN2.at_ (k := k) (by omega)
          have c2 := hN2.at_ s5
          rw [s1] at c1
          rw [s2] at c2
          have hN3 := (hN2.set (k := k) (by omega) y).set (k := k + 1) (by rw [List.length_set]; exact s5) u
          rw [s3] at hN3
          have hN4 : Nums ((wr.setCell ⟨g, k, none⟩ (.int .i64 (y : Nat))).setCell ⟨g, k + 1, none⟩ (.int .i64 (u : Nat))) B (.slice (some ⟨g, 0, none⟩) n c) (X ++ V.take (k + 1 - a) ++ u :: (V.drop (k + 1 - a) ++ Y)) := by rw [show k + 1 - a = k - a + 1 by omega, htk]; simpa using hN3
          obtain ⟨cx, kb⟩ := hN2.sput
          obtain ⟨k1, hk1⟩ : ∃ k1, k + 1 = k1 := ⟨_, rfl⟩
          have hk1I : (k : Int) + 1 = (k1 : Int) := by omega
          have hk1n : (k1 : Int) < (n : Int) := by omega
          rw [hk1] at c2 hN4
          have f1 := kb.free k none
          have f2 := kb.free k1 none
          have hB3 : ButOf (fun x => x = g) w ((wr.setCell ⟨g, k, none⟩ (.int .i64 (y : Nat))).setCell ⟨g, k1, none⟩ (.int .i64 (u : Nat))) := (hB2.set _ (Or.inl rfl)).set _ (Or.inl rfl)
          obtain ⟨v', hy'⟩ := cell?_setCell_some (w := wr) (p := ⟨g, k, none⟩) (x := .int .i64 (y : Nat)) (q := ⟨g, k1, none⟩) c2
          have hms : i - (intOf (.int .i64 (k1 : Int))).toNat < i - (intOf (.int .i64 (k : Int))).toNat := by simp [intOf]; omega
          have hk1a : a ≤ k1 ∧ k1 + 1 ≤ i := by omega
          replace hms := Lib.hid hms
          replace hk1 := Lib.hid hk1
          replace hy := Lib.hid hy
          clear s1 s2 s3 s5 hN2 hN3 kb hB2 hdr htk
          go_wp2_with fail
          go_region
          go_wp2_with fail
          go_roundw
          case rel => exact ⟨k1, hk1a.1, hk1a.2, rfl, hN4.below (Below.refl _ _).drew, hB3.drew⟩
          case measure => exact hms.out
        · have hkI : ¬ ((k : Int) < (i : Int) - 1) := by omega
          rw [show k - a = i - m by omega] at hN2
          clear hlt3
          go_wp2_with fail
          (try simp only [Exit.inBlock, Exit.then])
          refine bodyPost_ret (results_none rfl _ _ _) rfl ?_
          exact ⟨rfl, ⟨_, hZp.out, hZ.out, by simpa using hN2⟩, hB2⟩
set_option maxRecDepth 100000 in
set_option maxHeartbeats 2000000 in
theorem symOneR_any {w : World} {B p g n c a m b v : Nat} {ca : Option Addr} {mm cc : Nat} {cs : Nat → Nat} {X U Y : List Nat} (hk : Key w p g ca mm cc cs) (h : Nums w B (.slice (some ⟨g, 0, none⟩) n c) (X ++ U ++ v :: Y)) (hv : v < mm) (hlt : ∀ x ∈ U, x < mm) (hU : Asc cs U) (ha : X.length = a) (hm : a + U.length = m) (hb : m + 1 = b) (h2 : 2 ≤ U.length) (hn : n ≤ 1000) :
    Calls Try.prog 74 #[.slice (some ⟨g, 0, none⟩) n c, .int .i64 (a : Nat), .int .i64 (m : Nat), .int .i64 (b : Nat), usedV p] w fun e w' => e = .returned (.tuple #[]) ∧ (∃ Z, Z.Perm (v :: U) ∧ Asc cs Z ∧ Nums w' B (.slice (some ⟨g, 0, none⟩) n c) (X ++ Z ++ Y)) ∧ ButOf (fun x => x = g) w w' := by
  have hnl := h.len
  simp only [List.length_append, List.length_cons] at hnl
  have hnI : (n : Int) ≤ 1000 := by omega
  have hbn : b ≤ n := by omega
  have hmaz : ((m : Int) - (a : Int) == 1) = false := by rw [beq_eq_false_iff_ne]; omega
  have hbm : (b : Int) - (m : Int) = 1 := by omega
  have haI : (a : Int) ≤ (m : Int) := by omega
  have hmn2 : (m : Int) < (n : Int) := by omega
  have hL : (X ++ U ++ v :: Y).length = n := by simp only [List.length_append, List.length_cons]; omega
  have hUat : ∀ k, k < U.length → (X ++ U ++ v :: Y).getD (a + k) 0 = U.getD k 0 := fun k hk => by
    rw [List.append_assoc, n_getD_app_right (j := k) (by omega), n_getD_app_left hk]
  have hVat : (X ++ U ++ v :: Y).getD m 0 = v := by rw [show m = (X ++ U).length by simp; omega, get_mid]
  obtain ⟨L, hLe⟩ : ∃ L, X ++ U ++ v :: Y = L := ⟨_, rfl⟩
  rw [hLe] at h hL hVat hUat
  replace hnl := Lib.hid hnl
  replace hVat := Lib.hid hVat
  replace hUat := Lib.hid hUat
  replace hL := Lib.hid hL
  replace hLe := Lib.hid hLe
  replace ha := Lib.hid ha
  unfold usedV
  go_enter Try.func74, Try.ntmps74
  go_wp2_with fail
  go_loopw [14, 15] (fun v10 v11 wr => ∃ i j : Nat, a ≤ i ∧ i ≤ j ∧ j ≤ m ∧ v10 = .int .i64 i ∧ v11 = .int .i64 j ∧ Hid (i = a ∨ cs (U.getD (i - 1 - a) 0) ≤ cs v) ∧ Hid (j = m ∨ cs v ≤ cs (U.getD (j - a) 0)) ∧ Nums wr B (.slice (some ⟨g, 0, none⟩) n c) L ∧ ButOf (fun x => x = g) w wr) (fun v10 v11 _ => (intOf v11).toNat - (intOf v10).toNat)
  case atStart => exact ⟨a, m, Nat.le_refl _, by omega, Nat.le_refl _, rfl, rfl, Lib.hid (Or.inl rfl), Lib.hid (Or.inl rfl), h, ButOf.refl _ _⟩
  case round =>
    obtain ⟨i, j, hmi, hij, hjb, rfl, rfl, hi, hj, hN, hB⟩ := hrel
    have hiI : (i : Int) ≤ (j : Int) := by omega
    have hjI : (j : Int) ≤ 1000 := by omega
    by_cases hlt2 : i < j
    · have hlI : (i : Int) < (j : Int) := by omega
      obtain ⟨s, hs⟩ : ∃ s, i + j = s := ⟨_, rfl⟩
      obtain ⟨d, hd⟩ : ∃ d, s / 2 = d := ⟨_, rfl⟩
      have hsI : (i : Int) + (j : Int) = (s : Int) := by omega
      have hsb : (s : Int) ≤ 2000 := by omega
      have hdI : (s : Int) / 2 = (d : Int) := by omega
      have hdi : i ≤ d ∧ d < j := by omega
      have hdn : (d : Int) < (n : Int) := by omega
      have hdU : d - a < U.length := by omega
      obtain ⟨x, hx⟩ : ∃ x, U.getD (d - a) 0 = x := ⟨_, rfl⟩
      have hxm : x < mm := hx ▸ hlt _ (n_getD_mem hdU)
      have cd := hN.at_ (k := d) (by rw [hL.out]; omega)
      have cm := hN.at_ (k := m) (by rw [hL.out]; omega)
      rw [show d = a + (d - a) by omega, hUat.out _ hdU, hx, show a + (d - a) = d by omega] at cd
      rw [hVat.out] at cm
      have hka := hk.but hB
      have hcmp := Lib.hid (fun q => used1_any v x (hka.drewN q) hv hxm)
      have hms1 : (intOf (.int .i64 (j : Int))).toNat - (intOf (.int .i64 ((d : Int) + 1))).toNat < (intOf (.int .i64 (j : Int))).toNat - (intOf (.int .i64 (i : Int))).toNat := by simp [intOf]; omega
      have hms2 : (intOf (.int .i64 (d : Int))).toNat - (intOf (.int .i64 (i : Int))).toNat < (intOf (.int .i64 (j : Int))).toNat - (intOf (.int .i64 (i : Int))).toNat := by simp [intOf]; omega
      replace hms1 := Lib.hid hms1
      replace hms2 := Lib.hid hms2
      replace hs := Lib.hid hs
      replace hd := Lib.hid hd
      by_cases hc : cs v < cs x
      · have hcI : (cs v : Int) - (cs x : Int) < 0 := by omega
        have hcd : decide ((cs v : Int) - (cs x : Int) < 0) = true := decide_eq_true hcI
        have hnx : Hid (d = m ∨ cs v ≤ cs (U.getD (d - a) 0)) := Lib.hid (Or.inr (by rw [hx]; omega))
        replace hx := Lib.hid hx
        clear hc hka
        go_wp2_with fail
        go_quiet ((go_at_call 65; exact Calls.quiet_of (hcmp.out _)))
        go_wp2_with fail
        go_roundw
        case rel => exact ⟨i, d, by omega, by omega, by omega, rfl, rfl, hi, hnx, hN.below (below_drewN (Below.refl _ _) _), hB.drewN _⟩
        case measure => exact hms2.out
      · have hcI : ¬ ((cs v : Int) - (cs x : Int) < 0) := by omega
        have hcd : decide ((cs v : Int) - (cs x : Int) < 0) = false := decide_eq_false hcI
        have hnx : Hid (d + 1 = a ∨ cs (U.getD (d + 1 - 1 - a) 0) ≤ cs v) := Lib.hid (Or.inr (by rw [show d + 1 - 1 - a = d - a by omega, hx]; omega))
        replace hx := Lib.hid hx
        clear hc hka
        go_wp2_with fail
        go_quiet ((go_at_call 65; exact Calls.quiet_of (hcmp.out _)))
        go_wp2_with fail
        go_roundw
        case rel => exact ⟨d + 1, j, by omega, by omega, hjb, by simp, rfl, hnx, hj, hN.below (below_drewN (Below.refl _ _) _), hB.drewN _⟩
        case measure => exact hms1.out
    · have hlI : ¬ ((i : Int) < (j : Int)) := by omega
      have hZ := hU.ins (u := v) (i := i - a) (by omega) (hi.out.imp (fun e => by omega) (fun e => by rw [show i - a - 1 = i - 1 - a by omega]; exact e)) (hj.out.imp (fun e => by omega) (fun e => by rw [show i - a = j - a by omega]; exact e))
      have hZp : (U.take (i - a) ++ v :: U.drop (i - a)).Perm (v :: U) := List.perm_middle.trans (by rw [List.take_append_drop])
      have hX := ha.out
      have hst : Nums wr B (.slice (some ⟨g, 0, none⟩) n c) (X ++ U.take (m - a) ++ v :: (U.drop (m - a) ++ Y)) := by rw [List.take_of_length_le (by omega), List.drop_of_length_le (by omega)]; have h3 := hN; rw [← hLe.out] at h3; simpa using h3
      have hin : (i : Int) ≤ (m : Int) := by omega
      replace hZ := Lib.hid hZ
      replace hZp := Lib.hid hZp
      clear hN hi hj hlt2 hL hLe hVat hUat
      go_wp2_with fail
      go_loopw [17] (fun v13 wr2 => ∃ k : Nat, i ≤ k ∧ k ≤ m ∧ v13 = .int .i64 k ∧ Nums wr2 B (.slice (some ⟨g, 0, none⟩) n c) (X ++ U.take (k - a) ++ v :: (U.drop (k - a) ++ Y)) ∧ ButOf (fun x => x = g) w wr2) (fun v13 _ => (intOf v13).toNat)
      case atStart => exact ⟨m, by omega, Nat.le_refl _, rfl, hst, hB⟩
      case round =>
        obtain ⟨k, hik, hkm, rfl, hN2, hB2⟩ := hrel
        clear hst hB
        by_cases hlt3 : i < k
        · have hkI : (i : Int) < (k : Int) := by omega
          have hkn2 : (k : Int) < (n : Int) := by omega
          obtain ⟨k1, hk1⟩ : ∃ k1, k - 1 = k1 := ⟨_, rfl⟩
          have hk1I : (k : Int) - 1 = (k1 : Int) := by omega
          have hk1n : (k1 : Int) < (n : Int) := by omega
          have hkU : k1 - a < U.length := by omega
          obtain ⟨x, hx⟩ : ∃ x, U.getD (k1 - a) 0 = x := ⟨_, rfl⟩
          have hdr : U.drop (k1 - a) = x :: U.drop (k - a) := by rw [List.drop_eq_getElem_cons hkU, ← hx, List.getD_eq_getElem?_getD, List.getElem?_eq_getElem hkU, show k1 - a + 1 = k - a by omega]; rfl
          have htk : U.take (k - a) = U.take (k1 - a) ++ [x] := by rw [show k - a = k1 - a + 1 by omega, List.take_succ_eq_append_getElem hkU, ← hx, List.getD_eq_getElem?_getD, List.getElem?_eq_getElem hkU]; rfl
          obtain ⟨s1, s2, _, s4, s5⟩ := swap_next (P := X ++ U.take (k1 - a)) (Q := U.drop (k - a) ++ Y) (x := x) (y := v) (k := k1) (by rw [List.length_append, List.length_take]; omega)
          rw [htk] at hN2
          have hN2' : Nums wr B (.slice (some ⟨g, 0, none⟩) n c) (X ++ U.take (k1 - a) ++ x :: v :: (U.drop (k - a) ++ Y)) := by simpa using hN2
          rw [show k1 + 1 = k by omega] at s2 s4 s5
          have c1 := hN2'.at_ (k := k1) (by omega)
          have c2 := hN2'.at_ s5
          rw [s1] at c1
          rw [s2] at c2
          have hN3 := (hN2'.set s5 x).set (k := k1) (by rw [List.length_set]; omega) v
          rw [s4] at hN3
          have hN4 : Nums ((wr.setCell ⟨g, k, none⟩ (.int .i64 (x : Nat))).setCell ⟨g, k1, none⟩ (.int .i64 (v : Nat))) B (.slice (some ⟨g, 0, none⟩) n c) (X ++ U.take (k1 - a) ++ v :: (U.drop (k1 - a) ++ Y)) := by rw [hdr]; simpa using hN3
          obtain ⟨cx, kb⟩ := hN2.sput
          have f1 := kb.free k none
          have f2 := kb.free k1 none
          have hB3 : ButOf (fun x => x = g) w ((wr.setCell ⟨g, k, none⟩ (.int .i64 (x : Nat))).setCell ⟨g, k1, none⟩ (.int .i64 (v : Nat))) := (hB2.set _ (Or.inl rfl)).set _ (Or.inl rfl)
          obtain ⟨v', hy'⟩ := cell?_setCell_some (w := wr) (p := ⟨g, k, none⟩) (x := .int .i64 (x : Nat)) (q := ⟨g, k1, none⟩) c1
          have hms : (intOf (.int .i64 (k1 : Int))).toNat < (intOf (.int .i64 (k : Int))).toNat := by simp [intOf]; omega
          have hk1a : i ≤ k1 ∧ k1 ≤ m := by omega
          replace hms := Lib.hid hms
          replace hk1 := Lib.hid hk1
          replace hx := Lib.hid hx
          clear s1 s2 s4 s5 hN2 hN2' hN3 kb hB2 hdr htk
          go_wp2_with fail
          go_region
          go_wp2_with fail
          go_roundw
          case rel => exact ⟨k1, hk1a.1, hk1a.2, rfl, hN4.below (Below.refl _ _).drew, hB3.drew⟩
          case measure => exact hms.out
        · have hkI : ¬ ((i : Int) < (k : Int)) := by omega
          rw [show k - a = i - a by omega] at hN2
          clear hlt3
          go_wp2_with fail
          (try simp only [Exit.inBlock, Exit.then])
          refine bodyPost_ret (results_none rfl _ _ _) rfl ?_
          exact ⟨rfl, ⟨_, hZp.out, hZ.out, by simpa using hN2⟩, hB2⟩
end Go.Proofs.Ytdfoimgckahjpaa
