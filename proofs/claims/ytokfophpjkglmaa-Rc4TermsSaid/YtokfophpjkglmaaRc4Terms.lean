/-
  The walk of the statement Rc4Terms. No conditions.
-/
import Derived.Test.YtokfophpjkglmaaRc4Laws
namespace Go.Proofs.Ytokfophpjkglmaa
open Go.RowKit
theorem run_min2 {P : Program} (w : World) (ts : Array TypeId) (t : TypeId) (x y : Nat) :
    (Builtin.min_ ts t #[.int .i64 x, .int .i64 y]).run P w = .ok (.int .i64 ((min x y : Nat) : Int)) w := by
  simp only [Builtin.min_, List.foldlM, Builtin.min2, pure_bind]
  have h : ∀ a b : Nat, (if (b : Int) < (a : Int) then (b : Int) else (a : Int)) = ((min a b : Nat) : Int) := by
    intro a b; rw [Nat.min_def]; split <;> split <;> omega
  rw [h]
  rfl

theorem terms_out (a1 a2 a3 : Option Addr) (n1 n2 n3 c1 c2 c3 : Nat) (w : World) (h : n1 = 0 ∨ 256 < n1 ∨ 1000 < n2 ∨ 1000 < n3) :
    Calls Try.prog 6 #[.slice a1 n1 c1, .slice a2 n2 c2, .slice a3 n3 c3] w fun e w' => e = .returned (.bool true) ∧ Below w.heap.size w w' := by
  by_cases h1 : n1 = 0
  · subst h1
    go_enter Try.func6, Try.ntmps6
    go_wp2_with (go_at_call 9; refine (awake_any _).mono ?_; rintro e w1 ⟨rfl, hb⟩)
    go_ret
    exact ⟨rfl, hb⟩
  · have e1 : ((n1 : Int) == 0) = false := by simp; omega
    by_cases h2 : 256 < n1
    · go_enter Try.func6, Try.ntmps6
      go_wp2_with (go_at_call 9; refine (awake_any _).mono ?_; rintro e w1 ⟨rfl, hb⟩)
      go_ret
      exact ⟨rfl, hb⟩
    · by_cases h3 : 1000 < n2
      · go_enter Try.func6, Try.ntmps6
        go_wp2_with (go_at_call 9; refine (awake_any _).mono ?_; rintro e w1 ⟨rfl, hb⟩)
        go_ret
        exact ⟨rfl, hb⟩
      · have h4 : 1000 < n3 := by omega
        go_enter Try.func6, Try.ntmps6
        go_wp2_with (go_at_call 9; refine (awake_any _).mono ?_; rintro e w1 ⟨rfl, hb⟩)
        go_ret
        exact ⟨rfl, hb⟩

set_option maxHeartbeats 1000000 in
theorem terms_in (a1 a2 a3 : Option Addr) (n1 n2 n3 c1 c2 c3 : Nat) (key la lb : List UInt8) (w : World) (hK : Bts w a1 n1 c1 key) (hA : Bts w a2 n2 c2 la) (hB : Bts w a3 n3 c3 lb) (h1 : 1 ≤ n1) (h2 : n1 ≤ 256) (h3 : n2 ≤ 1000) (h4 : n3 ≤ 1000) :
    Calls Try.prog 6 #[.slice a1 n1 c1, .slice a2 n2 c2, .slice a3 n3 c3] w fun e w' => e = .returned (.bool true) ∧ Below w.heap.size w w' := by
  have e1 : ((n1 : Int) == 0) = false := by simp; omega
  obtain ⟨i0, hi, hz0, hz1, hz2⟩ := info_parts Try.info5
  obtain ⟨m, hm⟩ : ∃ m, m = min n2 n3 := ⟨_, rfl⟩
  have hmin : ∀ w, (Builtin.min_ #[3, 3] 3 #[.int .i64 n2, .int .i64 n3]).run Try.prog w = .ok (.int .i64 m) w := by
    intro w
    rw [hm]
    exact run_min2 w _ _ n2 n3
  have hm1 : m ≤ n2 := by omega
  have hm2 : m ≤ n3 := by omega
  clear hm
  have hca := hA.cap
  have hcb := hB.cap
  have hst2 := fun w => run_take (P := Try.prog) Try.underlying22 hi a2 n2 c2 m (by omega) w
  have hst3 := fun w => run_take (P := Try.prog) Try.underlying22 hi a3 n3 c3 m (by omega) w
  clear hi hz0 hz1 hz2
  replace hA := hA.take hm1
  replace hB := hB.take hm2
  generalize la.take m = xa at *
  generalize lb.take m = xb at *
  have neA := fun (b : Nat) (hb : w.heap.size ≤ b) => hA.ne hb
  have neA' := Lib.hid neA; clear neA
  have neB := fun (b : Nat) (hb : w.heap.size ≤ b) => hB.ne hb
  have neB' := Lib.hid neB; clear neB
  have hal := hA.len
  have hbl := hB.len
  go_enter Try.func6, Try.ntmps6
  go_wp2_with (go_at_call 9; refine (awake_any _).mono ?_; rintro e w1 ⟨rfl, hb⟩)
  replace hK := hK.below hb (Nat.le_refl _)
  replace hA := hA.below hb (Nat.le_refl _)
  replace hB := hB.below hb (Nat.le_refl _)
  go_wp2_with fail
  go_quiet (fail)
  replace hK := hK.drewN nq
  replace hA := hA.drewN nq
  replace hB := hB.drewN nq
  replace hb := below_drewN hb nq
  generalize w1.drewN nq = w2 at *
  have s2 := hb.size
  clear hst2 hst3 hmin
  go_wp2_with fail
  refine (symbol_any n1 _).mono ?_
  rintro e w3 ⟨rfl, hS, hz⟩
  replace hK := hK.below hz (Nat.le_refl _)
  replace hA := hA.below hz (Nat.le_refl _)
  replace hB := hB.below hz (Nat.le_refl _)
  replace hb := hb.trans (hz.mono hb.size)
  have l3 := hS.lt
  clear hz
  go_wp2_with fail
  refine (symbol_any n1 _).mono ?_
  rintro e w4 ⟨rfl, hT, hz⟩
  replace hS := hS.below hz hS.lt
  replace hK := hK.below hz (Nat.le_refl _)
  replace hA := hA.below hz (Nat.le_refl _)
  replace hB := hB.below hz (Nat.le_refl _)
  replace hb := hb.trans (hz.mono hb.size)
  have l4 := hT.lt
  clear hz
  go_wp2_with fail
  refine (new_yes _ _ _ key _ hK h1 h2).mono ?_
  rintro e w5 ⟨rfl, hX, hz⟩
  replace hS := hS.below hz hS.lt
  replace hT := hT.below hz hT.lt
  replace hK := hK.below hz (Nat.le_refl _)
  replace hA := hA.below hz (Nat.le_refl _)
  replace hB := hB.below hz (Nat.le_refl _)
  replace hb := hb.trans (hz.mono hb.size)
  have l5 := hX.lt
  clear hz
  go_wp2_with fail
  refine (new_yes _ _ _ key _ hK h1 h2).mono ?_
  rintro e w6 ⟨rfl, hY, hz⟩
  replace hS := hS.below hz hS.lt
  replace hT := hT.below hz hT.lt
  replace hX := hX.below hz hX.lt
  replace hA := hA.below hz (Nat.le_refl _)
  replace hB := hB.below hz (Nat.le_refl _)
  replace hb := hb.trans (hz.mono hb.size)
  have l6 := hY.lt
  clear hz hK
  go_wp2_with fail
  refine (Xor_any _ _ _ _ _ _ xa hS hA (neA'.out _ s2) (by show 0 + m < _; omega) (by show n1 < _; omega)).mono ?_
  rintro e w7 ⟨rfl, hoS, -, hz⟩
  replace hA := hA.grown hz (neA'.out _ s2)
  replace hB := hB.grown hz (neB'.out _ s2)
  replace hT := hT.grown hz (by simp; omega)
  replace hX := hX.grown hz (by simp; omega)
  replace hY := hY.grown hz (by simp; omega)
  replace hb := below_grow hb hz hb.size s2
  have l7 : w6.heap.size < w7.heap.size := (hoS.lt _ rfl).2
  clear hz hS
  have s3 : w.heap.size ≤ w3.heap.size := by omega
  go_wp2_with fail
  refine (Xor_any _ _ _ _ _ _ xb hT hB (neB'.out _ s3) (by show 0 + m < _; omega) (by show n1 < _; omega)).mono ?_
  rintro e w8 ⟨rfl, hoT, -, hz⟩
  replace hA := hA.grown hz (neA'.out _ s3)
  replace hB := hB.grown hz (neB'.out _ s3)
  replace hX := hX.grown hz (by simp; omega)
  replace hY := hY.grown hz (by simp; omega)
  replace hoS := own_grown hoS hz (by omega)
  replace hb := below_grow hb hz hb.size s3
  clear hz hT
  go_wp2_with fail
  refine (same_any _ _ _ _ _ _ _ _ _ (own_bts hoS (by omega)) (own_bts hoT (by omega))).mono ?_
  rintro e w9 ⟨rfl, hz⟩
  replace hA := hA.below hz (Nat.le_refl _)
  replace hB := hB.below hz (Nat.le_refl _)
  replace hX := hX.below hz hX.lt
  replace hY := hY.below hz hY.lt
  replace hb := hb.trans (hz.mono hb.size)
  clear hz hoS hoT
  have hd : decide ((symC n1).xor xa = (symC n1).xor xb) = true :=
    decide_eq_true (Cph.xor_term _ _ _ rfl (by omega))
  have l9 := hY.lt
  have s4 : w.heap.size ≤ w4.heap.size := by omega
  have s5 : w.heap.size ≤ w5.heap.size := by omega
  go_wp2_with fail
  refine (Xor_any _ _ _ _ _ _ xa hX hA (neA'.out _ s4) (by show 0 + m < _; omega) (by show 0 < _; decide)).mono ?_
  rintro e w10 ⟨rfl, hoP, -, hz⟩
  replace hA := hA.grown hz (neA'.out _ s4)
  replace hB := hB.grown hz (neB'.out _ s4)
  replace hY := hY.grown hz (by simp; omega)
  replace hb := below_grow hb hz hb.size s4
  have l10 : w9.heap.size < w10.heap.size := (hoP.lt _ rfl).2
  clear hz hX hd
  go_wp2_with fail
  refine (Xor_any _ _ _ _ _ _ xb hY hB (neB'.out _ s5) (by show 0 + m < _; omega) (by show 0 < _; decide)).mono ?_
  rintro e w11 ⟨rfl, hoQ, -, hz⟩
  replace hA := hA.grown hz (neA'.out _ s5)
  replace hB := hB.grown hz (neB'.out _ s5)
  replace hoP := own_grown hoP hz (by omega)
  replace hb := below_grow hb hz hb.size s5
  clear hz hY
  have hP := own_bts hoP (by omega)
  have hQ := own_bts hoQ (by omega)
  clear hoP hoQ
  have hdf := Cph.xor_diff xa xb (newC key) rfl (by omega)
  rw [hal] at hdf
  have hdf' := Lib.hid hdf; clear hdf
  have hpl := Cph.xor_length xa (newC key)
  have hql := Cph.xor_length xb (newC key)
  generalize (newC key).xor xa = xp at *
  generalize (newC key).xor xb = xq at *
  go_wp2_with fail
  go_loopw [16] (fun i wr => ∃ k : Nat, k ≤ m ∧ i = .int .i64 k ∧ Below w11.heap.size w11 wr) (fun i _ => m - (intOf i).toNat)
  case atStart => exact ⟨0, by omega, rfl, Below.refl _ _⟩
  case round =>
    obtain ⟨k, hk, rfl, hbr⟩ := hrel
    by_cases hlt : k < m
    · obtain ⟨b1, o1, hp1, hc1⟩ := (hP.below hbr (Nat.le_refl _)).addr (by omega)
      cases hp1
      obtain ⟨b2, o2, hp2, hc2⟩ := (hQ.below hbr (Nat.le_refl _)).addr (by omega)
      cases hp2
      obtain ⟨b3, o3, rfl, hc3⟩ := (hA.below hbr (Nat.le_refl _)).addr (by omega)
      obtain ⟨b4, o4, rfl, hc4⟩ := (hB.below hbr (Nat.le_refl _)).addr (by omega)
      have g1 := hc1 k hlt
      have g2 := hc2 k hlt
      have g3 := hc3 k hlt
      have g4 := hc4 k hlt
      clear hc1 hc2 hc3 hc4
      simp only [Nat.zero_add] at g1 g2
      have hq := hdf'.out k hlt
      generalize xp.getD k 0 = x1 at *
      generalize xq.getD k 0 = x2 at *
      generalize xa.getD k 0 = x3 at *
      generalize xb.getD k 0 = x4 at *
      have hx1 := u8_xor_nat _ _ x1.toNat_lt x2.toNat_lt
      have hx2 := u8_xor_nat _ _ x3.toNat_lt x4.toNat_lt
      have hne : (((x1.toNat ^^^ x2.toNat : Nat) : Int) != ((x3.toNat ^^^ x4.toNat : Nat) : Int)) = false := by
        rw [← UInt8.toNat_xor, ← UInt8.toNat_xor, hq]; simp
      clear hq
      go_wp2
      go_quiet (fail)
      have hb' : Below w11.heap.size w11 (wr.drewN nq) := below_drewN hbr nq
      go_wp2
      go_roundw
      case rel => exact ⟨k + 1, by omega, by go_num, hb'⟩
      case measure => simp [intOf]; omega
    · obtain rfl : k = m := by omega
      go_wp2
      go_ret
      exact ⟨rfl, hb.trans (hbr.mono hb.size)⟩
end Go.Proofs.Ytokfophpjkglmaa
