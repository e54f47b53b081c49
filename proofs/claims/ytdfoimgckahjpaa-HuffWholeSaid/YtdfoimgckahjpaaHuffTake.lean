/-
  The walk of a table's Take. No conditions.
-/
import Derived.Test.YtdfoimgckahjpaaHuffWhole
import Derived.Test.YtdfoimgckahjpaaBitsRd
namespace Go.Proofs.Ytdfoimgckahjpaa
open Go.RowKit
theorem num_one (high : Bool) (f : Nat → Bool) : num high f 1 1 = (f 0).toNat := by
  have h : plc high 0 1 = 0 := by unfold plc; split <;> rfl
  simp [num, h]
theorem or_bit (X B : Nat) (hX : X < 4294967296) (hB : B ≤ 1) : bits .or .i64 ((X : Int) * 2) (B : Int) = ((2 * X + B : Nat) : Int) := by
  have e : (X : Int) * (2 : Int) = ((X <<< 1 : Nat) : Int) := by rw [Nat.shiftLeft_eq]; simp
  rw [e, i64_or_nat _ _ (by rw [Nat.shiftLeft_eq]; omega) (by omega), ← Nat.shiftLeft_add_eq_or_of_lt (show B < 2 ^ 1 by omega), Nat.shiftLeft_eq]
  congr 2
  omega
/-- what Take answers -/
def Took (w : World) (rb : Nat) (a : Option Addr) (c : Nat) (high : Bool) (l : List UInt8) (p : Nat) (x : Nat × Nat × Nat) (e : Ending) (w' : World) : Prop :=
  e = .returned (.tuple #[nv x.1, nv x.2.1]) ∧ Rd w' rb a c high l (p + x.2.2) ∧ w.grownBy w' (some rb)
/-- what Take reads of a table, in a world in which a reader has gone on -/
structure TbAt (w : World) (b : Nat) (L : List Nat) (oa : Option Addr) (oc : Nat) : Prop where
  made : w.cell? ⟨b, 0, none⟩ = some (.bool true)
  cnts : ∀ n, n < 16 → w.cell? ⟨b, 3 + n, none⟩ = some (nv (cnt L n))
  row : w.cell? ⟨b, 19, none⟩ = some (.slice oa (ord L 15).length oc)
  at_ : ∀ j, j < (ord L 15).length → ∃ r, oa = some ⟨r, 0, none⟩ ∧ w.cell? ⟨r, j, none⟩ = some (nv ((ord L 15).getD j 0))
theorem Tb.at_ {w : World} {b rb : Nat} {L : List Nat} {cs : Array Value} {T : TypeId} (h : Tb w b L) (hk : Blk w rb cs T) (h1 : 84 ≠ T) (h2 : 3 ≠ T) : ∃ oa oc, ∀ w', w.grownBy w' (some rb) → TbAt w' b L oa oc := by
  obtain ⟨B, la, lc, ca, cc, oa, oc, hb, hl, hc, ho⟩ := h.ex
  refine ⟨oa, oc, fun w' hg => ?_⟩
  have hbut : ButOf (· = rb) w w' := ButOf.of_grown hg (fun i e => by cases e; rfl)
  have hb' := hb.but hbut (blk_ne hb hk h1)
  have ho' := ho.but hbut (fun i hi e => own_blk_ne ho hk h2 (by rw [hi, e]))
  exact ⟨by rw [hb'.cell]; rfl, fun n hn => by rw [hb'.cell, tabV_count _ _ _ _ hn], by rw [hb'.cell]; rfl, fun j hj => ho'.cell hj⟩
set_option maxHeartbeats 4000000 in
theorem htake_any {b rb : Nat} {L : List Nat} {a : Option Addr} {c : Nat} {high : Bool} {l : List UInt8} {p : Nat} {w : World} (h : Tb w b L) (hr : Rd w rb a c high l p) :
    Calls Try.prog 45 #[.pointer (some ⟨b, 0, none⟩), .pointer (some ⟨rb, 0, none⟩)] w (Took w rb a c high l p (tk L (fun j => bitAt high l (p + j)) (8 * l.length - p) 15 0)) := by
  obtain ⟨f, hf⟩ : ∃ f : Nat → Bool, f = fun j => bitAt high l (p + j) := ⟨_, rfl⟩
  rw [← hf]
  generalize hans : tk L f (8 * l.length - p) 15 0 = ans
  obtain ⟨oa, oc, hat⟩ := h.at_ hr.blk (by decide) (by decide)
  have hcl := fun n => cnt_le h.few n
  have hol := ord_len_le L hcl
  have hfl := fun n (hn : n ≤ 15) => fst_le h.whole hn
  have hvl := val_lt f
  have g0 := (hat w (grown_refl _ _)).made
  replace hat := Lib.hid hat
  clear h
  go_enter Try.func45, Try.ntmps45
  go_wp2_with fail
  go_loopw [6, 7, 8, 9] (fun x y z i wr => ∃ k : Nat, k ≤ 15 ∧ x = .int .i64 (val f k : Nat) ∧ y = .int .i64 ((fst L k + cnt L k : Nat) : Int) ∧ z = .int .i64 ((ord L k).length : Nat) ∧ i = .int .i64 ((k + 1 : Nat) : Int) ∧
    Rd wr rb a c high l (p + k) ∧ w.grownBy wr (some rb) ∧ fst L k + cnt L k ≤ val f k ∧ tk L f (8 * l.length - p) (15 - k) k = ans) (fun _ _ _ i _ => 17 - (intOf i).toNat)
  case atStart => exact ⟨0, by omega, rfl, rfl, rfl, rfl, hr, grown_refl _ _, Nat.zero_le _, hans⟩
  case round =>
    clear hr hans g0
    obtain ⟨k, hk, rfl, rfl, rfl, rfl, hr, hg, hge, ha⟩ := hrel
    have hA := hat.out _ hg
    have gr := hA.row
    have o1 := hol 15
    have o2 := hol k
    by_cases hlt : k + 1 ≤ 15
    · by_cases hmo : (ord L k).length < (ord L 15).length
      · have hOn : On L f k := ⟨hge, hmo⟩
        have gc := hA.cnts (k + 1) (by omega)
        rw [show 15 - k = (14 - k) + 1 by omega] at ha
        by_cases hav : p + k + 1 ≤ 8 * l.length
        · have hB : (f k).toNat ≤ 1 := by cases f k <;> simp
          have hV := Nat.lt_of_lt_of_le (hvl k) (Nat.pow_le_pow_right (by decide) hk : 2 ^ k ≤ 2 ^ 15)
          have hF := Nat.le_trans (hfl k hk) (Nat.pow_le_pow_right (by decide) hk : 2 ^ k ≤ 2 ^ 15)
          have hV2 : val f (k + 1) = 2 * val f k + (f k).toNat := rfl
          have hF2 : fst L (k + 1) = 2 * (fst L k + cnt L k) := rfl
          have hO2 := ord_length L k
          have hC := hcl (k + 1)
          have hfle := hOn.fst_le
          have hnum : num high (fun j => bitAt high l (p + k + j)) 1 1 = (f k).toNat := by rw [num_one, hf, Nat.add_zero]
          have hor := or_bit (val f k) (f k).toNat (by omega) hB
          rw [← hV2] at hor
          have hT := take_yes hr 1 (by omega) hav
          rw [hnum] at hT
          have hsym : val f (k + 1) < fst L (k + 1) + cnt L (k + 1) → (ord L k).length + (val f (k + 1) - fst L (k + 1)) < (ord L 15).length := fun hv => by
            obtain ⟨i, _, _, _, h4⟩ := hOn.sym (by omega) hv
            exact (List.getElem?_eq_some_iff.1 h4).1
          have hhit := hOn.hit (m := 8 * l.length - p) (q := 14 - k) (by omega)
          have hmiss := hOn.miss (m := 8 * l.length - p) (q := 14 - k) (by omega)
          have hgo : ¬ val f (k + 1) < fst L (k + 1) + cnt L (k + 1) → fst L (k + 1) + cnt L (k + 1) ≤ val f (k + 1) := fun hv => by omega
          clear hcl hol hfl hvl hOn hA hf hnum
          generalize hq : k + 1 = q at *
          generalize hv1 : val f q = V2 at *
          generalize hv2 : fst L q = F2 at *
          generalize hv3 : cnt L q = C at *
          generalize hv4 : (ord L q).length = O2 at *
          generalize hv5 : (ord L k).length = O at *
          generalize hv6 : (ord L 15).length = T at *
          generalize fst L k + cnt L k = F at *
          generalize val f k = V at *
          generalize (f k).toNat = b1 at *
          have hFm : (F : Int) * 2 = (F2 : Int) := by omega
          have hd : (V2 : Int) - (F2 : Int) = ((V2 - F2 : Nat) : Int) := by omega
          have hVb : V2 ≤ 70000 := by omega
          have hFb : F2 ≤ 70000 := by omega
          have hOb : O ≤ 4800 := by omega
          have hVs : V ≤ 40000 := by omega
          have hFs : F ≤ 40000 := by omega
          have hTb : T ≤ 4800 := by omega
          have hO2b : O2 ≤ 5200 := by omega
          clear o1 o2 hF hV
          have u1 := Lib.hid hv1; have u2 := Lib.hid hv2; have u3 := Lib.hid hv3; have u4 := Lib.hid hv4; have u5 := Lib.hid hv5; have u6 := Lib.hid hv6; have uT := Lib.hid hT
          clear hv1 hv2 hv3 hv4 hv5 hv6 hT
          by_cases hv : V2 < F2 + C
          · have hJ := hsym hv
            have hix : (O : Int) + (V2 : Int) - (F2 : Int) = ((O + (V2 - F2) : Nat) : Int) := by omega
            rw [hhit hv] at ha
            have hlt2 : ((V2 - F2 : Nat) : Int) < (C : Int) := by omega
            clear hhit hmiss hsym hgo hge hfle hV2 hF2 hO2 hv
            generalize hJ' : O + (V2 - F2) = J at *
            generalize V2 - F2 = D at *
            go_wp2_with fail
            refine uT.out.mono ?_
            rintro e w1 ⟨rfl, hr1, hg1⟩
            have hgg := grown_trans hg hg1
            have hA := hat.out _ hgg
            have gr1 := hA.row
            have gc1 := hA.cnts q (by omega)
            rw [u6.out] at gr1
            rw [u3.out] at gc1
            obtain ⟨r, rfl, gj⟩ := hA.at_ J (by rw [u6.out]; exact hJ)
            clear hA gr gc hr hg
            subst ha
            have hJ2 := Lib.hid hJ'
            clear hJ'
            generalize hX : (ord L 15).getD J 0 = X at *
            have hX2 := Lib.hid hX
            clear hX
            unfold nv at gj gc1
            go_wp2_with fail
            go_ret2
            refine ⟨?_, by rw [← hq]; exact hr1, hgg⟩
            show _ = Ending.returned (.tuple #[nv ((ord L 15).getD J 0), nv 0])
            rw [hX2.out]
            rfl
          · rw [hmiss hv] at ha
            have hge2 := hgo hv
            have hlt2 : ¬ ((V2 - F2 : Nat) : Int) < (C : Int) := by omega
            clear hhit hmiss hsym hgo hge hfle hV2 hF2 hv
            generalize V2 - F2 = D at *
            go_wp2_with fail
            refine uT.out.mono ?_
            rintro e w1 ⟨rfl, hr1, hg1⟩
            have hgg := grown_trans hg hg1
            have hA := hat.out _ hgg
            have gr1 := hA.row
            have gc1 := hA.cnts q (by omega)
            rw [u6.out] at gr1
            rw [u3.out] at gc1
            unfold nv at gc1
            clear hA gr gc hr hg
            go_wp2_with fail
            go_roundw
            case rel =>
              refine ⟨q, by omega, ?_, ?_, ?_, by go_num, by rw [← hq]; exact hr1, hgg, by rw [u1.out, u2.out, u3.out]; exact hge2, ?_⟩
              · rw [u1.out]
              · rw [u2.out, u3.out]; simp
              · rw [u4.out, hO2]; simp
              · rw [show 15 - q = 14 - k by omega]; exact ha
            case measure => simp [intOf]; omega
        · rw [hOn.short (by omega)] at ha
          subst ha
          clear hcl hol hfl hvl gc hA hOn hge
          generalize val f k = V at *
          generalize fst L k + cnt L k = F at *
          generalize (ord L k).length = O at *
          generalize (ord L 15).length = T at *
          go_wp2_with fail
          refine (take_no hr 1 (by omega)).mono ?_
          rintro e w1 ⟨rfl, m, rfl⟩
          go_wp2_with fail
          go_ret2
          exact ⟨rfl, hr.below (below_drewN (Below.refl _ _) m) (Nat.le_refl _), grown_trans hg (grown_drewN _ _ _)⟩
      · have e : tk L f (8 * l.length - p) (15 - k) k = (0, 10, k) := by
          rw [show 15 - k = (14 - k) + 1 by omega, tk, if_pos (by omega)]
        rw [e] at ha
        subst ha
        clear hcl hol hfl hvl hA hge e
        generalize val f k = V at *
        generalize fst L k + cnt L k = F at *
        generalize (ord L k).length = O at *
        generalize (ord L 15).length = T at *
        go_wp2_with fail
        go_ret2
        exact ⟨rfl, hr, hg⟩
    · obtain rfl : k = 15 := by omega
      have e : tk L f (8 * l.length - p) (15 - 15) 15 = (0, 10, 15) := rfl
      rw [e] at ha
      subst ha
      clear hcl hol hfl hvl hA hge e
      generalize val f 15 = V at *
      generalize fst L 15 + cnt L 15 = F at *
      generalize (ord L 15).length = T at *
      go_wp2_with fail
      go_ret2
      exact ⟨rfl, hr, hg⟩
end Go.Proofs.Ytdfoimgckahjpaa
