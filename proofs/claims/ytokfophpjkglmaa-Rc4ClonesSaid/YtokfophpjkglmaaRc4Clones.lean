/-
  The walk of the statement Rc4Clones. No conditions.
-/
import Derived.Test.YtokfophpjkglmaaRc4Laws
namespace Go.Proofs.Ytokfophpjkglmaa
open Go.RowKit
theorem clones_out (a1 a2 a3 : Option Addr) (n1 n2 n3 c1 c2 c3 : Nat) (w : World) (h : n1 = 0 ∨ 256 < n1 ∨ 500 < n2 ∨ 500 < n3) :
    Calls Try.prog 8 #[.slice a1 n1 c1, .slice a2 n2 c2, .slice a3 n3 c3] w fun e w' => e = .returned (.bool true) ∧ Below w.heap.size w w' := by
  by_cases h1 : n1 = 0
  · subst h1
    go_enter Try.func8, Try.ntmps8
    go_wp2_with (go_at_call 9; refine (awake_any _).mono ?_; rintro e w1 ⟨rfl, hb⟩)
    go_ret
    exact ⟨rfl, hb⟩
  · have e1 : ((n1 : Int) == 0) = false := by simp; omega
    by_cases h2 : 256 < n1
    · go_enter Try.func8, Try.ntmps8
      go_wp2_with (go_at_call 9; refine (awake_any _).mono ?_; rintro e w1 ⟨rfl, hb⟩)
      go_ret
      exact ⟨rfl, hb⟩
    · by_cases h3 : 500 < n2
      · go_enter Try.func8, Try.ntmps8
        go_wp2_with (go_at_call 9; refine (awake_any _).mono ?_; rintro e w1 ⟨rfl, hb⟩)
        go_ret
        exact ⟨rfl, hb⟩
      · have h4 : 500 < n3 := by omega
        go_enter Try.func8, Try.ntmps8
        go_wp2_with (go_at_call 9; refine (awake_any _).mono ?_; rintro e w1 ⟨rfl, hb⟩)
        go_ret
        exact ⟨rfl, hb⟩

set_option maxHeartbeats 1000000 in
theorem clones_in (a1 a2 a3 : Option Addr) (n1 n2 n3 c1 c2 c3 : Nat) (key la lb : List UInt8) (w : World) (hK : Bts w a1 n1 c1 key) (hA : Bts w a2 n2 c2 la) (hB : Bts w a3 n3 c3 lb) (h1 : 1 ≤ n1) (h2 : n1 ≤ 256) (h3 : n2 ≤ 500) (h4 : n3 ≤ 500) :
    Calls Try.prog 8 #[.slice a1 n1 c1, .slice a2 n2 c2, .slice a3 n3 c3] w fun e w' => e = .returned (.bool true) ∧ Below w.heap.size w w' := by
  have e1 : ((n1 : Int) == 0) = false := by simp; omega
  have neA := fun (b : Nat) (hb : w.heap.size ≤ b) => hA.ne hb
  have neA' := Lib.hid neA; clear neA
  have neB := fun (b : Nat) (hb : w.heap.size ≤ b) => hB.ne hb
  have neB' := Lib.hid neB; clear neB
  have hal := hA.len
  have hbl := hB.len
  obtain ⟨i0, hi, hz0, hz1, hz2⟩ := info_parts Try.info5
  have hmk := run_mkB (P := Try.prog) Try.underlying22 hi hz0 hz1 hz2 n3 (by omega)
  clear hi hz0 hz1 hz2
  go_enter Try.func8, Try.ntmps8
  go_wp2_with (go_at_call 9; refine (awake_any _).mono ?_; rintro e w1 ⟨rfl, hb⟩)
  replace hK := hK.below hb (Nat.le_refl _)
  replace hA := hA.below hb (Nat.le_refl _)
  replace hB := hB.below hb (Nat.le_refl _)
  have s1 := hb.size
  go_wp2_with fail
  refine (new_yes _ _ _ key _ hK h1 h2).mono ?_
  rintro e w2 ⟨rfl, hC, hz⟩
  replace hA := hA.below hz (Nat.le_refl _)
  replace hB := hB.below hz (Nat.le_refl _)
  replace hb := hb.trans (hz.mono hb.size)
  have lC := hC.lt
  clear hz hK
  go_wp2_with fail
  refine (Xor_any _ _ _ _ _ _ la hC hA (neA'.out _ s1) (by show 0 + n2 < _; omega) (by show 0 < _; decide)).mono ?_
  rintro e w3 ⟨rfl, -, hC3, hz⟩
  replace hA := hA.grown hz (neA'.out _ s1)
  replace hB := hB.grown hz (neB'.out _ s1)
  replace hb := below_grow hb hz hb.size s1
  have s3 := hC3.lt
  clear hz hC
  go_wp2_with fail
  refine (clone_any _ _ _ hC3).mono ?_
  rintro e w4 ⟨rfl, hD, hz⟩
  replace hA := hA.below hz (Nat.le_refl _)
  replace hB := hB.below hz (Nat.le_refl _)
  replace hC3 := hC3.below hz hC3.lt
  replace hb := hb.trans (hz.mono hb.size)
  have lD := hD.lt
  clear hz
  go_wp2_with fail
  refine (Xor_any _ _ _ _ _ _ lb hC3 hB (neB'.out _ s1) (by rw [Cph.after_off]; show 0 + n2 + n3 < _; omega) (by rw [Cph.after_id]; show 0 < _; decide)).mono ?_
  rintro e w5 ⟨rfl, hoX, hC5, hz⟩
  replace hA := hA.grown hz (neA'.out _ s1)
  replace hB := hB.grown hz (neB'.out _ s1)
  replace hD := hD.grown hz (by simp; omega)
  replace hb := below_grow hb hz hb.size s1
  have l5 : w4.heap.size < w5.heap.size := (hoX.lt _ rfl).2
  clear hz hC3
  go_wp2_with fail
  refine (Xor_any _ _ _ _ _ _ la hC5 hA (neA'.out _ s1) (by simp only [Cph.after_off]; show 0 + n2 + n3 + n2 < _; omega) (by simp only [Cph.after_id]; show 0 < _; decide)).mono ?_
  rintro e w6 ⟨rfl, -, hC6, hz⟩
  replace hA := hA.grown hz (neA'.out _ s1)
  replace hB := hB.grown hz (neB'.out _ s1)
  replace hD := hD.grown hz (by simp; omega)
  replace hoX := own_grown hoX hz (by omega)
  replace hb := below_grow hb hz hb.size s1
  clear hz hC5
  go_wp2_with fail
  refine (Xor_any _ _ _ _ _ _ lb hD hB (neB'.out _ (by omega)) (by rw [Cph.after_off]; show 0 + n2 + n3 < _; omega) (by rw [Cph.after_id]; show 0 < _; decide)).mono ?_
  rintro e w7 ⟨rfl, hoY, hD7, hz⟩
  replace hA := hA.grown hz (neA'.out _ (by omega))
  replace hB := hB.grown hz (neB'.out _ (by omega))
  replace hC6 := hC6.grown hz (by simp; omega)
  replace hoX := own_grown hoX hz (by omega)
  replace hb := below_grow hb hz hb.size (by omega)
  have l7 := hD7.lt
  clear hz hD
  go_wp2_with fail
  refine (same_any _ _ _ _ _ _ _ _ _ (own_bts hoX (by omega)) (own_bts hoY (by omega))).mono ?_
  rintro e w8 ⟨rfl, hz⟩
  replace hA := hA.below hz (Nat.le_refl _)
  replace hB := hB.below hz (Nat.le_refl _)
  replace hC6 := hC6.below hz hC6.lt
  replace hD7 := hD7.below hz hD7.lt
  replace hb := hb.trans (hz.mono hb.size)
  clear hz hoX hoY
  have hd : decide (((newC key).after n2).xor lb = ((newC key).after n2).xor lb) = true := decide_eq_true rfl
  have o1 : ((((newC key).after n2).after n3).off : Int) = (n2 : Int) + (n3 : Int) := by simp only [Cph.after_off]; simp [newC]
  have o2 : (((((newC key).after n2).after n3).after n2).off : Int) = 2 * (n2 : Int) + (n3 : Int) := by simp only [Cph.after_off]; simp [newC]; omega
  go_wp2_with (first | (go_at_call_of 19 w3.heap.size; refine (offset_any _ _ _ hD7).mono ?_; rintro e w' ⟨rfl, rfl⟩) | (go_at_call_of 19 w1.heap.size; refine (offset_any _ _ _ hC6).mono ?_; rintro e w' ⟨rfl, rfl⟩))
  refine (symbol_any n1 _).mono ?_
  rintro e w9 ⟨rfl, hS, hz⟩
  replace hA := hA.below hz (Nat.le_refl _)
  replace hB := hB.below hz (Nat.le_refl _)
  replace hb := hb.trans (hz.mono hb.size)
  have l8 := hb.size
  have l9 := hS.lt
  have s8 := hC6.lt
  clear hz hC6 hD7 o1 o2 hd
  have s8' : w.heap.size ≤ w8.heap.size := by omega
  go_wp2_with fail
  refine (Xor_any _ _ _ _ _ _ la hS hA (neA'.out _ s8') (by show 0 + n2 < _; omega) (by show n1 < _; omega)).mono ?_
  rintro e w10 ⟨rfl, -, hS10, hz⟩
  replace hB := hB.grown hz (neB'.out _ s8')
  replace hb := below_grow hb hz hb.size s8'
  have l10 := hS10.lt
  clear hz hS hA
  go_wp2_with fail
  refine (clone_any _ _ _ hS10).mono ?_
  rintro e w11 ⟨rfl, hT, hz⟩
  replace hB := hB.below hz (Nat.le_refl _)
  replace hS10 := hS10.below hz hS10.lt
  replace hb := hb.trans (hz.mono hb.size)
  have l11 := hT.lt
  clear hz
  have s8'' : w.heap.size ≤ w11.heap.size := hb.size
  have hd : decide (((symC n1).after n2).xor lb = ((symC n1).after n2).xor (List.replicate n3 0)) = true :=
    decide_eq_true (Cph.xor_term _ _ _ (by rw [Cph.after_sym]; rfl) (by simp [hbl]))
  have o1 : ((((symC n1).after n2).after n3).off : Int) = (n2 : Int) + (n3 : Int) := by simp only [Cph.after_off]; show ((0 + n2 + n3 : Nat) : Int) = _; omega
  have p1 : ((symC n1).after n2).off + n3 < 1099511627776 := by rw [Cph.after_off]; show 0 + n2 + n3 < _; omega
  have p2 : ((symC n1).after n2).id < 1099511627776 := by rw [Cph.after_id]; show n1 < _; omega
  generalize (symC n1).after n2 = S at *
  have o1' := Lib.hid o1; clear o1
  rw [mkB_map] at hmk
  have hnl : (List.replicate n3 (0 : UInt8)).length = n3 := List.length_replicate
  generalize List.replicate n3 (0 : UInt8) = zs at *
  have hN0 := fun (W : World) => Bts.new (w := W) (e := 5) (m := (0, 0)) zs (by omega)
  rw [hnl] at hN0
  have al := fun (W : World) => below_alloc (Below.refl W.heap.size W) (.cells (zs.map bv).toArray 5 (0, 0)) (Nat.le_refl _)
  -- the row is made ahead of the first call, or behind it
  have qa := Lib.hid (Xor_any w8.heap.size S w11.drew a3 n3 c3 lb (hS10.grown (grown_drew _ none) (by simp)) hB.drew (neB'.out _ s8') p1 p2)
  have qb := Lib.hid (Xor_any w8.heap.size S (w11.alloc (.cells (zs.map bv).toArray 5 (0, 0))).drew a3 n3 c3 lb ((hS10.below (al w11) hS10.lt).grown (grown_drew _ none) (by simp)) (hB.below (al w11) (Nat.le_refl _)).drew (neB'.out _ s8') p1 p2)
  have alH := Lib.hid al
  have hN0H := Lib.hid hN0
  clear al hN0
  go_wp2_with fail
  go_region_with (first
    | (go_at_call_of 11 (Value.slice a3 n3 c3); first | ((with_reducible show Calls _ _ _ w11.drew _); refine qa.out.mono ?_; (rintro e w12 ⟨rfl, hoX, hS12, hz⟩); have l12 : w11.heap.size < w12.heap.size := (hoX.lt _ rfl).2;  have hT13 := ((hT.grown (grown_drew _ none) (by simp)).grown hz (by simp; omega)).below (alH.out w12) (by omega); have hX13 := own_below hoX (alH.out w12); have hS13 := hS12.below (alH.out w12) hS12.lt; have hb12 := below_grow hb.drew hz hb.size s8'; have hb13 := hb12.trans ((alH.out w12).mono hb12.size); have q13 := Lib.hid (Xor_any w10.heap.size S (w12.alloc (.cells (zs.map bv).toArray 5 (0, 0))) _ n3 n3 zs hT13 (hN0H.out w12) (fun _ x hx => by cases hx; simp; omega) p1 p2); clear hz hS12 hb12; have hsz : (w12.alloc (.cells (zs.map bv).toArray 5 (0, 0))).heap.size = w12.heap.size + 1 := (by simp); have hdr : w11.drew.heap.size = w11.heap.size := rfl; rw [hdr] at hX13; have l13 : w11.heap.size < (w12.alloc (.cells (zs.map bv).toArray 5 (0, 0))).heap.size := (by rw [hsz]; omega)) | (refine qb.out.mono ?_; (rintro e w12 ⟨rfl, hoX, hS13, hz⟩); have hsz : (w11.alloc (.cells (zs.map bv).toArray 5 (0, 0))).drew.heap.size = w11.heap.size + 1 := (by simp); rw [hsz] at hoX; have l13 : w11.heap.size < w12.heap.size := (by have hq : w11.heap.size + 1 < w12.heap.size := (hoX.lt _ rfl).2; omega); have hT13 := ((hT.below (alH.out w11) hT.lt).grown (grown_drew _ none) (by simp)).grown hz (by simp; omega); have hX13 := hoX; have hb12 := below_grow (hb.trans ((alH.out w11).mono s8'')).drew hz (by simp; omega) s8'; have hb13 := hb12; have q13 := Lib.hid (Xor_any w10.heap.size S w12 _ n3 n3 zs hT13 ((hN0H.out w11).drew.grown hz (fun _ x hx => by cases hx; simp; omega)) (fun _ x hx => by cases hx; simp; omega) p1 p2); clear hz hoX hb12))
    | (go_at_call_of 11 w10.heap.size; refine q13.out.mono ?_; (rintro e w14 ⟨rfl, hoY, hT14, hz14⟩); (try rw [hsz] at hoY); have hX14 := own_grown hX13 hz14 (by omega); have hS14 := hS13.grown hz14 (by simp; omega); have hb14 := below_grow hb13 hz14 hb13.size (by omega); have q15 := Lib.hid (same_any _ _ _ _ _ _ _ _ _ (own_bts hX14 (by omega)) (own_bts hoY (by omega))); clear hX14 hX13 hoY hz14)
    | (go_at_call 12; refine q15.out.mono ?_; (rintro e w15 ⟨rfl, hz15⟩); have hS15 := hS14.below hz15 hS14.lt; have hT15 := hT14.below hz15 hT14.lt; have hb15 := hb14.trans (hz15.mono hb14.size); clear hz15)
    | (go_at_call_of 19 w8.heap.size; refine (offset_any _ _ _ hS15).mono ?_; (rintro e w' ⟨rfl, rfl⟩))
    | (go_at_call_of 19 w10.heap.size; refine (offset_any _ _ _ hT15).mono ?_; (rintro e w' ⟨rfl, rfl⟩)))
  all_goals go_wp2_with fail
  all_goals go_goals
  all_goals go_ret
  all_goals exact ⟨ret_bool (by simp), hb15⟩
end Go.Proofs.Ytokfophpjkglmaa
