/-
  The walk of the reference's begins and Take. No conditions.
-/
import Derived.Test.YtdfoimgckahjpaaHuffRNew
import Derived.Test.YtdfoimgckahjpaaHuffTake
import Derived.Test.YtdfoimgckahjpaaBitsRef2
namespace Go.Proofs.Ytdfoimgckahjpaa
open Go.RowKit
/-- what begins reads of a table -/
structure RTbAt (w : World) (b : Nat) (L : List Nat) (la ca : Option Addr) (lc cc : Nat) : Prop where
  l : w.cell? ⟨b, 0, none⟩ = some (.slice la L.length lc)
  c : w.cell? ⟨b, 1, none⟩ = some (.slice ca L.length cc)
  lat : ∀ j, j < L.length → ∃ r, la = some ⟨r, 0, none⟩ ∧ w.cell? ⟨r, j, none⟩ = some (nv (L.getD j 0))
  cat : ∀ j, j < L.length → ∃ r, ca = some ⟨r, 0, none⟩ ∧ w.cell? ⟨r, j, none⟩ = some (nv (codeOf L j))
theorem RTb.at_ {w : World} {b : Nat} {L : List Nat} (h : RTb w b L) : ∃ la ca lc cc, RTbAt w b L la ca lc cc := by
  obtain ⟨B, la, lc, ca, cc, hb, hl, hc⟩ := h.ex
  refine ⟨la, ca, lc, cc, by rw [hb.cell]; rfl, by rw [hb.cell]; rfl, fun j hj => hl.cell hj, fun j hj => ?_⟩
  have := hc.cell (j := j) (by rw [codesOf_length]; exact hj)
  rwa [codesOf_getD hj] at this
/-- does a symbol's code begin with these bits? -/
def begs (L : List Nat) (c n j : Nat) : Prop := n ≤ L.getD j 0 ∧ codeOf L j / 2 ^ (L.getD j 0 - n) = c
/-- what begins answers -/
def Begun (L : List Nat) (c n : Nat) (e : Ending) : Prop :=
  (∃ i, i < L.length ∧ L.getD i 0 = n ∧ begs L c n i ∧ e = .returned (.tuple #[.bool true, .int .i64 (i : Nat)])) ∨
  ((∀ j, j < L.length → L.getD j 0 = n → ¬ begs L c n j) ∧ ∃ B, e = .returned (.tuple #[.bool B, .int .i64 (-1)]) ∧ (B = true ↔ ∃ j, j < L.length ∧ begs L c n j))
set_option maxHeartbeats 2000000 in
theorem begins_any {b : Nat} {L : List Nat} {w : World} (h : RTb w b L) (c n : Nat) (hn : n ≤ 15) :
    Calls Try.prog 57 #[.pointer (some ⟨b, 0, none⟩), .int .i64 (c : Int), .int .i64 (n : Int)] w fun e w' => Begun L c n e ∧ ∃ m, w' = w.drewN m := by
  obtain ⟨la, ca, lc, cc, hat⟩ := h.at_
  have h15 := h.le15
  have hfl := Lib.hid (fun n (hn : n ≤ 15) => fst_le h.whole hn)
  have hfew := h.few
  clear h
  go_enter Try.func57, Try.ntmps57
  go_wp2_with fail
  go_loopw [8, 9] (fun y i wr => ∃ (j m : Nat) (B : Bool), j ≤ L.length ∧ i = .int .i64 (j : Nat) ∧ y = .bool B ∧ (B = true ↔ ∃ q, q < j ∧ begs L c n q) ∧ (∀ q, q < j → L.getD q 0 = n → ¬ begs L c n q) ∧ wr = w.drewN m) (fun _ i _ => L.length - (intOf i).toNat)
  case atStart => exact ⟨0, 0, false, by omega, rfl, rfl, by simp, by omega, rfl⟩
  case round =>
    obtain ⟨j, m, B, hj, rfl, rfl, hB, hno, rfl⟩ := hrel
    have g1 := hat.l
    have g2 := hat.c
    by_cases hlt : j < L.length
    · obtain ⟨r, rfl, g3⟩ := hat.lat j hlt
      obtain ⟨t, rfl, g4⟩ := hat.cat j hlt
      have hX := h15 j hlt
      have hbg : begs L c n j ↔ n ≤ L.getD j 0 ∧ codeOf L j / 2 ^ (L.getD j 0 - n) = c := Iff.rfl
      have hBs : ∀ A : Prop, (A ↔ begs L c n j) → (B = true ∨ A ↔ ∃ q, q < j + 1 ∧ begs L c n q) := fun A hA => by
        rw [hB, hA]
        constructor
        · rintro (⟨q, h1, h2⟩ | h2)
          · exact ⟨q, by omega, h2⟩
          · exact ⟨j, by omega, h2⟩
        · rintro ⟨q, h1, h2⟩
          by_cases e : q = j
          · subst e; exact .inr h2
          · exact .inl ⟨q, by omega, h2⟩
      have hnos : (L.getD j 0 = n → ¬ begs L c n j) → ∀ q, q < j + 1 → L.getD q 0 = n → ¬ begs L c n q := fun h0 q hq => by
        by_cases e : q = j
        · subst e; exact h0
        · exact hno q (by omega)
      have hcb : codeOf L j ≤ 32768 := by
        by_cases h0 : L.getD j 0 = 0
        · have : codeOf L j = 0 := by unfold codeOf; rw [if_pos h0]
          omega
        · have h1 := codeOf_lt hlt (by omega)
          have h2 := hfl.out (L.getD j 0) hX
          have h3 := Nat.pow_le_pow_right (show 0 < 2 by decide) hX
          omega
      unfold nv at g3 g4
      replace hBs := Lib.hid hBs
      replace hnos := Lib.hid hnos
      replace hB := Lib.hid hB
      replace hno := Lib.hid hno
      replace hbg := Lib.hid hbg
      by_cases hge : n ≤ L.getD j 0
      · have hdiv : (codeOf L j : Int) / 2 ^ (L.getD j 0 - n) = ((codeOf L j / 2 ^ (L.getD j 0 - n) : Nat) : Int) := by simp
        by_cases hc : codeOf L j / 2 ^ (L.getD j 0 - n) = c
        · have hbj : begs L c n j := ⟨hge, hc⟩
          replace hbj := Lib.hid hbj
          rw [hc] at hdiv
          by_cases he : L.getD j 0 = n
          · have hCc : codeOf L j = c := by rw [he, Nat.sub_self] at hc; simpa using hc
            have he' := Lib.hid he
            rw [hCc] at g4
            rw [he] at g3
            clear hc hbg hat hdiv hBs hB hno hnos
            go_wp2_with fail
            go_quiet (fail)
            go_wp2_with fail
            go_ret2
            exact ⟨.inl ⟨j, hlt, he'.out, hbj.out, rfl⟩, _, rfl⟩
          · have hfB := hBs.out True ⟨fun _ => hbj.out, fun _ => trivial⟩
            have hfn := hnos.out (fun e => absurd e he)
            replace hfB := Lib.hid hfB
            replace hfn := Lib.hid hfn
            clear hc hbg hBs hB hno hnos
            generalize L.getD j 0 = X at *
            generalize codeOf L j = C at *
            have hsub : (X : Int) - (n : Int) = ((X - n : Nat) : Int) := by omega
            have hgeI : (n : Int) ≤ (X : Int) := by omega
            have heB : ((X : Int) == (n : Int)) = false := by rw [beq_eq_false_iff_ne]; omega
            have hDb : X - n ≤ 15 := by omega
            clear he
            generalize X - n = D at *
            go_wp2_with fail
            go_quiet (fail)
            go_wp2_with fail
            go_roundw
            case rel => exact ⟨j + 1, _, true, by omega, by go_num, rfl, by simpa using hfB.out, hfn.out, rfl⟩
            case measure => simp [intOf]; omega
        · have hnb : ¬ begs L c n j := fun e => hc e.2
          have hfB := hBs.out False ⟨fun e => e.elim, fun e => hnb e⟩
          have hfn := hnos.out (fun _ => hnb)
          replace hfB := Lib.hid hfB
          replace hfn := Lib.hid hfn
          have hcI : ((codeOf L j / 2 ^ (L.getD j 0 - n) : Nat) : Int) ≠ (c : Int) := by omega
          clear hc hbg hBs hB hno hnos hnb
          generalize L.getD j 0 = X at *
          generalize codeOf L j = C at *
          have hsub : (X : Int) - (n : Int) = ((X - n : Nat) : Int) := by omega
          have hgeI : (n : Int) ≤ (X : Int) := by omega
          have hDb : X - n ≤ 15 := by omega
          generalize X - n = D at *
          generalize C / 2 ^ D = Y at *
          have hcB : ((Y : Int) == (c : Int)) = false := by rw [beq_eq_false_iff_ne]; exact hcI
          go_wp2_with fail
          go_quiet (fail)
          go_wp2_with fail
          go_roundw
          case rel => exact ⟨j + 1, _, B, by omega, by go_num, rfl, by simpa using hfB.out, hfn.out, rfl⟩
          case measure => simp [intOf]; omega
      · have hnb : ¬ begs L c n j := fun e => hge e.1
        have hfB := hBs.out False ⟨fun e => e.elim, fun e => hnb e⟩
        have hfn := hnos.out (fun _ => hnb)
        replace hfB := Lib.hid hfB
        replace hfn := Lib.hid hfn
        clear hbg hBs hB hno hnos hnb
        generalize L.getD j 0 = X at *
        generalize codeOf L j = C at *
        have hgeI : ¬ ((n : Int) ≤ (X : Int)) := by omega
        go_wp2_with fail
        go_quiet (fail)
        go_wp2_with fail
        go_roundw
        case rel => exact ⟨j + 1, _, B, by omega, by go_num, rfl, by simpa using hfB.out, hfn.out, rfl⟩
        case measure => simp [intOf]; omega
    · obtain rfl : j = L.length := by omega
      clear h15
      replace hB := Lib.hid hB
      replace hno := Lib.hid hno
      go_wp2_with fail
      go_ret2
      exact ⟨.inr ⟨hno.out, B, rfl, hB.out⟩, m, rfl⟩
/-- what the reference's Take answers -/
def RTook (w : World) (S rb : Nat) (v : Value) (high : Bool) (fs : List Bool) (p : Nat) (x : Nat × Nat × Nat) (e : Ending) (w' : World) : Prop :=
  e = .returned (.tuple #[nv x.1, nv x.2.1]) ∧ Rf w' S rb v high fs (p + x.2.2) ∧ w.grownBy w' (some rb)
theorem begs_zero {L : List Nat} (hW : Whole L) (h15 : ∀ i, i < L.length → L.getD i 0 ≤ 15) {j : Nat} (hj : j < L.length) : begs L 0 0 j := by
  refine ⟨Nat.zero_le _, ?_⟩
  rw [Nat.sub_zero]
  by_cases h0 : L.getD j 0 = 0
  · have : codeOf L j = 0 := by unfold codeOf; rw [if_pos h0]
    rw [this]; simp
  · exact Nat.div_eq_of_lt (Nat.lt_of_lt_of_le (codeOf_lt hj (by omega)) (fst_le hW (h15 j hj)))
theorem begun_zero {L : List Nat} (hW : Whole L) (h15 : ∀ i, i < L.length → L.getD i 0 ≤ 15) {e : Ending} (h : Begun L 0 0 e) : ∃ (s : Bool) (y : Int), e = .returned (.tuple #[.bool s, .int .i64 y]) ∧ (s = true ↔ 0 < L.length) := by
  rcases h with ⟨i, hi, _, _, rfl⟩ | ⟨_, B, rfl, hB⟩
  · exact ⟨true, _, rfl, by simp; omega⟩
  · refine ⟨B, _, rfl, hB.trans ⟨fun ⟨j, hj, _⟩ => by omega, fun h => ⟨0, h, begs_zero hW h15 h⟩⟩⟩
theorem RTb.rt_drewN {w : World} {b : Nat} {L : List Nat} (h : RTb w b L) (m : Nat) : RTb (w.drewN m) b L := h.below (below_drewN (Below.refl _ _) m)
theorem ord_zero {L : List Nat} (h : ∀ i, i < L.length → L.getD i 0 = 0) : (ord L 15).length = 0 := by
  cases hl : ord L 15 with
  | nil => rfl
  | cons x xs =>
    have : ∀ n, ord L n = [] := by
      intro n
      induction n with
      | zero => rfl
      | succ n ih =>
        rw [ord, ih, List.nil_append]
        unfold syms symsTo
        rw [List.filter_eq_nil_iff]
        intro i hi
        have := h i (by simpa using hi)
        simp only [decide_eq_true_eq]
        omega
    rw [this 15] at hl
    cases hl
set_option maxRecDepth 100000 in
set_option maxHeartbeats 8000000 in
theorem rhtake_any {b S rb : Nat} {L : List Nat} {v : Value} {high : Bool} {fs : List Bool} {p : Nat} {w : World} (h : RTb w b L) (hr : Rf w S rb v high fs p) :
    Calls Try.prog 46 #[.pointer (some ⟨b, 0, none⟩), .pointer (some ⟨rb, 0, none⟩)] w (RTook w S rb v high fs p (tk L (fun j => fs.getD (p + j) false) (fs.length - p) 15 0)) := by
  obtain ⟨f, hf⟩ : ∃ f : Nat → Bool, f = fun j => fs.getD (p + j) false := ⟨_, rfl⟩
  rw [← hf]
  generalize hans : tk L f (fs.length - p) 15 0 = ans
  have hW := h.whole
  have h15 := h.le15
  have hT : ∀ w', w.grownBy w' (some rb) → RTb w' b L := fun w' hg => h.grown hr.blk (by decide) (by decide) hg
  replace hT := Lib.hid hT
  have hfew := h.few
  clear h
  replace hW := Lib.hid hW
  replace h15 := Lib.hid h15
  replace hf := Lib.hid hf
  go_enter Try.func46, Try.ntmps46
  go_wp2_with fail
  go_loopw [6, 7] (fun x i wr => ∃ n : Nat, n ≤ 15 ∧ i = .int .i64 (n : Nat) ∧ x = .int .i64 (val f (n - 1) : Nat) ∧ Rf wr S rb v high fs (p + (n - 1)) ∧ w.grownBy wr (some rb) ∧ (n = 0 ∨ On L f (n - 1)) ∧ tk L f (fs.length - p) (15 - (n - 1)) (n - 1) = ans) (fun _ i _ => 17 - (intOf i).toNat)
  case atStart => exact ⟨0, by omega, rfl, rfl, hr, grown_refl _ _, .inl rfl, hans⟩
  case round =>
    clear hr hans
    obtain ⟨n, hn, rfl, rfl, hr, hg, hOn, ha⟩ := hrel
    have hTr := hT.out _ hg
    by_cases h0 : n = 0
    · subst h0
      simp only [Nat.zero_sub, Nat.sub_zero, Nat.add_zero] at hr ha
      have hv0 : val f (0 - 1) = 0 := rfl
      rw [hv0]
      have hbg := begins_any hTr 0 0 (by omega)
      clear hOn hv0
      go_wp2_with fail
      refine hbg.mono ?_
      rintro e w1 ⟨hb0, m, rfl⟩
      obtain ⟨s, y, rfl, hs⟩ := begun_zero hW.out h15.out hb0
      obtain ⟨la, ca, lc, cc, hat⟩ := (hTr.rt_drewN m).at_
      have hr2 := hr.drewN m
      have hg2 := grown_trans hg (grown_drewN wr m (some rb))
      clear hbg hb0 hTr hr hg
      generalize wr.drewN m = w2 at *
      have c1 := hat.l
      go_wp2_with fail
      go_loopw [10, 11] (fun x i W => ∃ (j : Nat) (E : Bool), j ≤ L.length ∧ i = .int .i64 (j : Nat) ∧ x = .bool E ∧ (E = true ↔ ∀ q, q < j → L.getD q 0 = 0) ∧ W = w2) (fun _ i _ => L.length - (intOf i).toNat)
      case atStart => exact ⟨0, true, by omega, rfl, rfl, by simp, rfl⟩
      case round =>
        obtain ⟨j, E, hj, rfl, rfl, hE, rfl⟩ := hrel
        by_cases hlt : j < L.length
        · obtain ⟨r, rfl, g3⟩ := hat.lat j hlt
          unfold nv at g3
          have hE2 : (E = true ∧ L.getD j 0 = 0) ↔ ∀ q, q < j + 1 → L.getD q 0 = 0 := by
            rw [hE]
            constructor
            · rintro ⟨h1, h2⟩ q hq
              by_cases e : q = j
              · subst e; exact h2
              · exact h1 q (by omega)
            · exact fun h1 => ⟨fun q hq => h1 q (by omega), h1 j (by omega)⟩
          replace hE2 := Lib.hid hE2
          replace hs := Lib.hid hs
          clear hE
          generalize L.getD j 0 = X at *
          cases E with
          | false =>
            go_wp2_with fail
            go_roundw
            case rel => exact ⟨j + 1, false, by omega, by go_num, rfl, by simpa using hE2.out, trivial⟩
            case measure => simp [intOf]; omega
          | true =>
            by_cases hX : X = 0
            · subst hX
              go_wp2_with fail
              go_roundw
              case rel => exact ⟨j + 1, true, by omega, by go_num, rfl, by simpa using hE2.out, trivial⟩
              case measure => simp [intOf]; omega
            · have hXB : ((X : Int) == 0) = false := by rw [beq_eq_false_iff_ne]; omega
              go_wp2_with fail
              go_roundw
              case rel => exact ⟨j + 1, false, by omega, by go_num, rfl, by have := hE2.out; simp [hX] at this ⊢; exact this, trivial⟩
              case measure => simp [intOf]; omega
        · obtain rfl : j = L.length := by omega
          have hend : s = false ∨ E = true → ans = (0, 10, 0) := fun hc => by
            have hz : (ord L 15).length = 0 := by
              rcases hc with hc | hc
              · have : L.length = 0 := by
                  rw [hc] at hs; simp at hs; rw [hs]; rfl
                exact ord_zero (fun i hi => by omega)
              · exact ord_zero (hE.1 hc)
            rw [← ha, tk, if_pos (by omega)]
          have hgo : ¬ (s = false ∨ E = true) → On L f 0 := fun hc => by
            refine On.zero (fun hz => hc (.inr (hE.2 fun q hq => ?_)))
            by_cases h0 : L.getD q 0 = 0
            · exact h0
            · have := longer (k := 0) hq (by omega) (h15.out q hq); omega
          replace hend := Lib.hid hend
          replace hgo := Lib.hid hgo
          clear hs hE hat
          cases s with
          | false =>
            have he := hend.out (.inl rfl)
            subst he
            clear hend hgo
            go_wp2_with fail
            go_ret2
            exact ⟨rfl, hr2, hg2⟩
          | true =>
            cases E with
            | true =>
              have he := hend.out (.inr rfl)
              subst he
              clear hend hgo
              go_wp2_with fail
              go_ret2
              exact ⟨rfl, hr2, hg2⟩
            | false =>
              have hO := hgo.out (by simp)
              clear hend hgo
              go_wp2_with fail
              go_roundw
              case rel => exact ⟨1, by omega, rfl, rfl, hr2, hg2, .inr hO, ha⟩
              case measure => simp [intOf]
    · obtain ⟨k, rfl⟩ : ∃ k, n = k + 1 := ⟨n - 1, by omega⟩
      simp only [Nat.add_sub_cancel] at hr ha hOn
      have hOn := hOn.resolve_left h0
      clear h0
      have hkk : val f (k + 1 - 1) = val f k := rfl
      rw [hkk]
      have hqI : (((k + 1 : Nat) : Int) == 0) = false := by rw [beq_eq_false_iff_ne]; omega
      rw [show 15 - k = (14 - k) + 1 by omega] at ha
      by_cases hav : p + k + 1 ≤ fs.length
      · have hB : (f k).toNat ≤ 1 := by cases f k <;> simp
        have hvl := val_lt f k
        have hpw := Nat.pow_le_pow_right (show 0 < 2 by decide) (show k ≤ 15 by omega)
        have hV : val f k ≤ 32768 := by omega
        have hV2 : val f (k + 1) = 2 * val f k + (f k).toNat := rfl
        have hnum : num high (fun j => fs.getD (p + k + j) false) 1 1 = (f k).toNat := by rw [num_one, hf.out, Nat.add_zero]
        have hor := or_bit (val f k) (f k).toNat (by omega) hB
        rw [← hV2] at hor
        have hTk := rtake_yes hr 1 (by omega) hav
        rw [hnum] at hTk
        have hbg := fun w' (hT' : RTb w' b L) => begins_any hT' (val f (k + 1)) (k + 1) (by omega)
        have hyes : ∀ i, i < L.length → L.getD i 0 = k + 1 → begs L (val f (k + 1)) (k + 1) i → ans = (i, 0, k + 1) := fun i hi hl hb => by
          rw [← ha]
          refine hOn.exact_ (by omega) (by omega) hi hl ?_
          have := hb.2
          rw [hl, Nat.sub_self] at this
          simpa using this
        have hmiss : (∀ j, j < L.length → L.getD j 0 = k + 1 → ¬ begs L (val f (k + 1)) (k + 1) j) → ¬ val f (k + 1) < fst L (k + 1) + cnt L (k + 1) := fun hno =>
          hOn.none_ (by omega) (fun i hi hl hc => hno i hi hl ⟨by omega, by rw [hl, Nat.sub_self]; simpa using hc⟩)
        have hstop : (∀ j, j < L.length → L.getD j 0 = k + 1 → ¬ begs L (val f (k + 1)) (k + 1) j) → (¬ ∃ j, j < L.length ∧ begs L (val f (k + 1)) (k + 1) j) → ans = (0, 10, k + 1) := fun hno hnb => by
          have hm := hmiss hno
          rw [← ha, hOn.miss (by omega) hm]
          exact hOn.stop hW.out (by omega) hm (fun i hi hl hc => hnb ⟨i, hi, by omega, hc⟩)
        have hnext : (∀ j, j < L.length → L.getD j 0 = k + 1 → ¬ begs L (val f (k + 1)) (k + 1) j) → (∃ j, j < L.length ∧ begs L (val f (k + 1)) (k + 1) j) → On L f (k + 1) ∧ tk L f (fs.length - p) (14 - k) (k + 1) = ans := fun hno ⟨j, hj, hb⟩ => by
          have hm := hmiss hno
          have hne : L.getD j 0 ≠ k + 1 := fun e => hno j hj e hb
          have := hb.1
          exact ⟨hOn.next hm hj (by omega) (h15.out j hj), by rw [← ha, hOn.miss (by omega) hm]⟩
        replace hyes := Lib.hid hyes
        replace hstop := Lib.hid hstop
        replace hnext := Lib.hid hnext
        replace hbg := Lib.hid hbg
        replace hV2 := Lib.hid hV2
        clear hmiss hnum hvl hpw hOn ha hTr
        generalize hv2 : val f (k + 1) = V2 at hor
        replace hv2 := Lib.hid hv2
        generalize val f k = V at *
        generalize (f k).toNat = b1 at *
        have hV2b : V2 ≤ 65537 := by have := hV2.out; have := hv2.out; omega
        clear hV2
        go_wp2_with fail
        refine hTk.mono ?_
        rintro e w1 ⟨rfl, hr1, hg1⟩
        have hgg := grown_trans hg hg1
        have hbg1 := hbg.out w1 (hT.out _ hgg)
        rw [hv2.out] at hbg1
        clear hTk hr hg hg1 hbg
        go_wp2_with fail
        refine hbg1.mono ?_
        rintro e w2 ⟨hbe, m, rfl⟩
        have hr2 := hr1.drewN m
        have hg2 := grown_trans hgg (grown_drewN w1 m (some rb))
        clear hbg1 hr1 hgg
        rcases hbe with ⟨i, hi, hl, hb, rfl⟩ | ⟨hno, B, rfl, hB2⟩
        · have he := hyes.out i hi hl (by rw [hv2.out]; exact hb)
          subst he
          clear hl hb
          go_wp2_with fail
          go_ret2
          exact ⟨rfl, hr2, hg2⟩
        · cases B with
          | false =>
            have he := hstop.out (by rw [hv2.out]; exact hno) (by rw [hv2.out]; intro hx; have := hB2.2 hx; simp at this)
            subst he
            clear hno hB2
            go_wp2_with fail
            go_ret2
            exact ⟨rfl, hr2, hg2⟩
          | true =>
            obtain ⟨hO, ha2⟩ := hnext.out (by rw [hv2.out]; exact hno) (by rw [hv2.out]; exact hB2.1 rfl)
            have hk14 : k + 1 < 15 := by
              have := hO.more
              by_cases e : k + 1 < 15
              · exact e
              · obtain rfl : k = 14 := by omega
                exact absurd this (Nat.lt_irrefl _)
            replace hO := Lib.hid hO
            replace ha2 := Lib.hid ha2
            clear hno hB2
            go_wp2_with fail
            go_roundw
            case rel => exact ⟨k + 1 + 1, by omega, by go_num, by rw [← hv2.out]; rfl, hr2, hg2, .inr hO.out, by rw [← ha2.out]; congr 1; omega⟩
            case measure => simp [intOf]; omega
      · have he := hOn.short (m := fs.length - p) (q := 14 - k) (by omega)
        rw [he] at ha
        subst ha
        clear he hOn hTr
        generalize val f k = V at *
        go_wp2_with fail
        refine (rtake_no hr 1 (by omega)).mono ?_
        rintro e w1 ⟨rfl, m, rfl⟩
        go_wp2_with fail
        go_ret2
        exact ⟨rfl, hr.drewN m, grown_trans hg (grown_drewN _ _ _)⟩
end Go.Proofs.Ytdfoimgckahjpaa
