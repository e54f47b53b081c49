/-
  The walk of the statement Rc4Streams. No conditions.
-/
import Derived.Test.YtokfophpjkglmaaRc4RNew
import Derived.Test.YtokfophpjkglmaaRc4Laws
import Derived.Test.YtokfophpjkglmaaRowsIn
import Derived.Test.YtokfophpjkglmaaHeld
import Derived.Deep.RegionLaw
import Derived.Deep.DeepCutAuto
namespace Go.Proofs.Ytokfophpjkglmaa
open Go.RowKit
/-- a call of a Go function, at one operation of a region that draws its order, guarded or not -/
theorem step_gow {P : Program} {w : World} {ops : Array Oper} {o : Oper} {a : Act} {K : Act → World → Prop} {Q : Exit → Act → World → Prop} {E : Prop} (hw : Region.wanted o (yielded ops a.tmps) = true) {f : FuncId} {args : Array Value} {R : Ending → World → Prop}
    (hc : Calls P f args w R) (hrun : (execOp a.eval o).run P w = .ok (.enter f args) w) (h : ∀ e w', R e w' → ∃ v, e = .returned v ∧ K (a.put o.dst v) w') :
    if Region.wanted o (yielded ops a.tmps) = true then Oper.wp P o a w K Q else E := by
  rw [if_pos hw]
  unfold Oper.wp
  rw [hrun, Oper.upon_enter]
  refine hc.mono fun e w' hr => ?_
  obtain ⟨v, rfl, hk⟩ := h e w' hr
  exact hk
theorem i64_and1023 (n : Int) : bits .and .i64 n 1023 = n % 1024 := by
  have h : (BitVec.ofInt 64 1023).toNat = 2 ^ 10 - 1 := by decide
  have key : (BitVec.ofInt 64 n &&& BitVec.ofInt 64 1023).toNat = (n % ((2 ^ 64 : Nat) : Int)).toNat % 2 ^ 10 := by
    rw [BitVec.toNat_and, BitVec.toNat_ofInt, h, Nat.and_two_pow_sub_one_eq_mod]
  show IntKind.i64.wrap ((BitVec.ofInt 64 n &&& BitVec.ofInt 64 1023).toNat : Nat) = n % 1024
  rw [key, IntKind.wrap_i64]
  omega
theorem types_ne {w : World} {b d : Nat} {C D : Cph} (h : Ciph w b C) (k : RC w d D) : b ≠ d := by
  rintro rfl
  have h1 := h.blk
  have h2 := k.blk
  unfold Blk at h1 h2
  rw [h1] at h2
  injection h2 with h2
  injection h2 with _ ht
  exact absurd ht (by decide)
/-- all streams of a round, and where they lie -/
structure Four (w0 w : World) (bc bm bs bt : Nat) (C M S T : Cph) : Prop where
  c : Ciph w bc C
  m : RC w bm M
  s : Ciph w bs S
  t : RC w bt T
  ns : bc ≠ bs
  nt : bm ≠ bt
  gc : w0.heap.size ≤ bc
  gm : w0.heap.size ≤ bm
  gs : w0.heap.size ≤ bs
  gt : w0.heap.size ≤ bt
  hb : Below w0.heap.size w0 w
section
variable {w0 w w' : World} {bc bm bs bt : Nat} {C M S T : Cph}
theorem Four.below (h : Four w0 w bc bm bs bt C M S T) (hb : Below w.heap.size w w') : Four w0 w' bc bm bs bt C M S T :=
  ⟨h.c.below hb h.c.lt, h.m.below hb h.m.lt, h.s.below hb h.s.lt, h.t.below hb h.t.lt, h.ns, h.nt, h.gc, h.gm, h.gs, h.gt, h.hb.trans (hb.mono h.hb.size)⟩
theorem Four.setC (h : Four w0 w bc bm bs bt C M S T) {D : Cph} (hc : Ciph w' bc D) (hg : w.grownBy w' (some bc)) : Four w0 w' bc bm bs bt D M S T :=
  ⟨hc, h.m.grown hg (by simpa using (types_ne h.c h.m).symm), h.s.grown hg (by simpa using h.ns.symm), h.t.grown hg (by simpa using (types_ne h.c h.t).symm), h.ns, h.nt, h.gc, h.gm, h.gs, h.gt, below_grow h.hb hg h.hb.size h.gc⟩
theorem Four.setM (h : Four w0 w bc bm bs bt C M S T) {D : Cph} (hc : RC w' bm D) (hg : w.grownBy w' (some bm)) : Four w0 w' bc bm bs bt C D S T :=
  ⟨h.c.grown hg (by simpa using types_ne h.c h.m), hc, h.s.grown hg (by simpa using types_ne h.s h.m), h.t.grown hg (by simpa using h.nt.symm), h.ns, h.nt, h.gc, h.gm, h.gs, h.gt, below_grow h.hb hg h.hb.size h.gm⟩
theorem Four.setS (h : Four w0 w bc bm bs bt C M S T) {D : Cph} (hc : Ciph w' bs D) (hg : w.grownBy w' (some bs)) : Four w0 w' bc bm bs bt C M D T :=
  ⟨h.c.grown hg (by simpa using h.ns), h.m.grown hg (by simpa using (types_ne h.s h.m).symm), hc, h.t.grown hg (by simpa using (types_ne h.s h.t).symm), h.ns, h.nt, h.gc, h.gm, h.gs, h.gt, below_grow h.hb hg h.hb.size h.gs⟩
theorem Four.setT (h : Four w0 w bc bm bs bt C M S T) {D : Cph} (hc : RC w' bt D) (hg : w.grownBy w' (some bt)) : Four w0 w' bc bm bs bt C M S D :=
  ⟨h.c.grown hg (by simpa using types_ne h.c h.t), h.m.grown hg (by simpa using h.nt), h.s.grown hg (by simpa using types_ne h.s h.t), hc, h.ns, h.nt, h.gc, h.gm, h.gs, h.gt, below_grow h.hb hg h.hb.size h.gt⟩
end
theorem same_eq (a1 a2 : Option Addr) (n1 n2 c1 c2 : Nat) (l : List UInt8) (w : World) (hB1 : Bts w a1 n1 c1 l) (hB2 : Bts w a2 n2 c2 l) :
    Calls Try.prog 12 #[.slice a1 n1 c1, .slice a2 n2 c2] w fun e w' => e = .returned (.bool true) ∧ Below w.heap.size w w' := by
  refine (same_any _ _ _ _ _ _ _ _ _ hB1 hB2).mono ?_
  rintro e w' ⟨rfl, h⟩
  exact ⟨ret_bool (by simp), h⟩
/-- the bytes of a row of the call's own, as the reference's Xor gives them -/
theorem own_slice_bts {w : World} {B n : Nat} {v : Value} {l : List UInt8} (h : w.ownsRow B 5 1 v n (l.map bv)) (hr : n ≤ 140737488355328) : ∃ a c, v = .slice a n c ∧ Bts w a n c l := Bts.of_own h hr
theorem streams_out {a1 a2 : Option Addr} {n1 n2 c1 c2 : Nat} (id : Int) {f : Nat → RowV} {w : World} (hc1 : n1 ≤ 9223372036854775807) (hL : Rws w a2 n2 c2 f) (h : 400 < n1 ∨ 30 < n2 ∨ n1 = 0 ∨ 256 < n1 ∨ ∃ i, i < n2 ∧ 300 < (f i).bn) :
    Calls Try.prog 7 #[.slice a1 n1 c1, .int .i64 id, .slice a2 n2 c2] w fun e w' => e = .returned (.bool true) ∧ Below w.heap.size w w' := by
  by_cases b1 : 400 < n1
  · go_enter Try.func7, Try.ntmps7
    go_wp2_with (go_at_call 9; refine (awake_any _).mono ?_; rintro e w1 ⟨rfl, hb⟩)
    go_ret
    exact ⟨rfl, hb⟩
  by_cases b2 : 30 < n2
  · go_enter Try.func7, Try.ntmps7
    go_wp2_with (go_at_call 9; refine (awake_any _).mono ?_; rintro e w1 ⟨rfl, hb⟩)
    go_ret
    exact ⟨rfl, hb⟩
  go_enter Try.func7, Try.ntmps7
  go_wp2_with (go_at_call 9; refine (awake_any _).mono ?_; rintro e w1 ⟨rfl, hb⟩)
  go_loopw [7] (fun i wr => ∃ j : Nat, j ≤ n2 ∧ i = .int .i64 j ∧ Below w.heap.size w wr ∧ ∀ q, q < j → (f q).bn ≤ 300) (fun i _ => n2 - (intOf i).toNat)
  case atStart => exact ⟨0, by omega, rfl, hb, fun q hq => by omega⟩
  case round =>
    clear hb
    obtain ⟨j, hj, rfl, hb, hq⟩ := hrel
    by_cases hlt : j < n2
    · obtain ⟨lb, lo, rfl, hlb, g1⟩ := hL.at_ hb hlt
      by_cases hlen : 300 < (f j).bn
      · clear hq hL
        generalize f j = r at *
        go_wp2_with fail
        go_ret
        exact ⟨rfl, hb⟩
      · have hq' : ∀ q, q < j + 1 → (f q).bn ≤ 300 := by
          intro q hq1
          by_cases e : q = j
          · subst e; omega
          · exact hq q (by omega)
        replace hq' := Lib.hid hq'
        clear hq hL h
        generalize f j = r at *
        go_wp2_with fail
        go_roundw
        case rel => exact ⟨j + 1, by omega, by go_num, hb, hq'.out⟩
        case measure => simp [intOf]; omega
    · have hno : n1 < 1 ∨ 256 < n1 := by
        rcases h with h | h | h | h | ⟨i, h1, h2⟩
        · omega
        · omega
        · omega
        · omega
        · have := hq i (by omega); omega
      replace hno := Lib.hid hno
      clear hq h
      go_wp2_with fail
      refine (new_no _ _ _ _ hno.out).mono ?_
      rintro e w2 ⟨rfl, rfl⟩
      go_wp2_with fail
      refine (rnew_no _ _ _ _ hc1 hno.out).mono ?_
      rintro e w2 ⟨rfl, rfl⟩
      go_wp2_with fail
      go_ret
      exact ⟨rfl, hb⟩
set_option maxRecDepth 100000 in
set_option maxHeartbeats 8000000 in
theorem streams_in {a1 a2 : Option Addr} {n1 n2 c1 c2 : Nat} (id : Int) {key : List UInt8} {f : Nat → RowV} {w : World} (hK : Bts w a1 n1 c1 key) (hL : Rws w a2 n2 c2 f) (h1 : 1 ≤ n1) (h2 : n1 ≤ 256) (h3 : n2 ≤ 30) (h4 : ∀ i, i < n2 → (f i).bn ≤ 300) :
    Calls Try.prog 7 #[.slice a1 n1 c1, .int .i64 id, .slice a2 n2 c2] w fun e w' => e = .returned (.bool true) ∧ Below w.heap.size w w' := by
  obtain ⟨D, hD, hD2⟩ : ∃ D : Nat, bits .and .i64 id 1023 = (D : Int) ∧ D < 1024 := by
    rw [i64_and1023]
    exact ⟨(id % 1024).toNat, by omega, by omega⟩
  go_enter Try.func7, Try.ntmps7
  go_wp2_with (go_at_call 9; refine (awake_any _).mono ?_; rintro e w1 ⟨rfl, hb⟩)
  go_loopw [7] (fun i wr => ∃ j : Nat, j ≤ n2 ∧ i = .int .i64 j ∧ Below w.heap.size w wr) (fun i _ => n2 - (intOf i).toNat)
  case atStart => exact ⟨0, by omega, rfl, hb⟩
  case round =>
    clear hb
    obtain ⟨j, hj, rfl, hb⟩ := hrel
    by_cases hlt : j < n2
    · obtain ⟨lb, lo, rfl, hlb, g1⟩ := hL.at_ hb hlt
      have hlen := h4 j hlt
      generalize f j = r at *
      go_wp2_with fail
      go_roundw
      case rel => exact ⟨j + 1, by omega, by go_num, hb⟩
      case measure => simp [intOf]; omega
    · skip
      go_wp2_with fail
      refine (new_yes _ _ _ key _ (hK.below hb (Nat.le_refl _)) h1 h2).mono ?_
      rintro e w2 ⟨rfl, hC, hz⟩
      have hb2 := hb.trans (hz.mono hb.size)
      have gC := hb.size
      have lC := hC.lt
      clear hz
      go_wp2_with fail
      refine (rnew_yes _ _ _ key _ (hK.below hb2 (Nat.le_refl _)) h1 h2).mono ?_
      rintro e w3 ⟨rfl, hM, hz⟩
      have hC := hC.below hz hC.lt
      have hb3 := hb2.trans (hz.mono hb2.size)
      have gM := hb2.size
      have lM := hM.lt
      clear hz
      go_wp2_with fail
      refine (symbol_any D _).mono ?_
      rintro e w4 ⟨rfl, hS, hz⟩
      have hC := hC.below hz hC.lt
      have hM := hM.below hz hM.lt
      have hb4 := hb3.trans (hz.mono hb3.size)
      have gS := hb3.size
      have lS := hS.lt
      clear hz
      go_wp2_with fail
      refine (rsymbol_any D _).mono ?_
      rintro e w5 ⟨rfl, hT, hz⟩
      have hC := hC.below hz hC.lt
      have hM := hM.below hz hM.lt
      have hS := hS.below hz hS.lt
      have hb5 := hb4.trans (hz.mono hb4.size)
      have gT := hb4.size
      clear hz hb hb2 hb3 hb4
      have hF : Four w w5 wr.heap.size w2.heap.size w3.heap.size w4.heap.size (newC key) (newC key) (symC D) (symC D) := ⟨hC, hM, hS, hT, by omega, by omega, gC, gM, gS, gT, hb5⟩
      have hc0 : (newC key).off = 0 ∧ (newC key).id = 0 := ⟨rfl, rfl⟩
      have hs0 : (symC D).off = 0 ∧ (symC D).id = D := ⟨rfl, rfl⟩
      clear hC hM hS hT gC gM gS gT hb5 lC lM lS
      generalize newC key = C0 at *
      generalize symC D = S0 at *
      generalize wr.heap.size = bc0 at *
      generalize w2.heap.size = bm at *
      generalize w3.heap.size = bs at *
      generalize w4.heap.size = bt at *
      go_wp2_with fail
      go_loopw [8, 14] (fun c i W => ∃ (k bc : Nat) (C S : Cph), k ≤ n2 ∧ i = .int .i64 k ∧ c = .pointer (some ⟨bc, 0, none⟩) ∧ Four w W bc bm bs bt C C S S ∧ C.off ≤ 300 * k ∧ S.off ≤ 300 * k ∧ C.id = 0 ∧ S.id < 1024) (fun _ i _ => n2 - (intOf i).toNat)
      case atStart => exact ⟨0, bc0, C0, S0, by omega, rfl, rfl, hF, by omega, by omega, hc0.2, by omega⟩
      case round =>
        clear hF hc0 hs0
        obtain ⟨k, bc, C, S, hk, rfl, rfl, h, oC, oS, iC, iS⟩ := hrel
        by_cases hlt : k < n2
        · obtain ⟨lb, lo, rfl, hlb, g1⟩ := hL.at_ h.hb hlt
          have hlen := h4 k hlt
          have gk := h.hb.size
          have hR := hL.bts hlt (by omega)
          go_wp2_with fail
          refine (clone_any _ _ _ h.c).mono ?_
          rintro e w6 ⟨rfl, hk6, hz⟩
          have lbk := h.c.lt
          have lbs := h.s.lt
          have h6 := h.below hz
          have lm := h6.m.lt
          have lt := h6.t.lt
          have ls := h6.s.lt
          have l6 := hk6.lt
          clear h hz
          generalize hbk : wr.heap.size = bk at *
          have nkc : bk ≠ bc := by omega
          have nks : bk ≠ bs := by omega
          have hneR := fun (b : Nat) (hb : w.heap.size ≤ b) => hR.ne hb
          have gL : ∀ W, Below w.heap.size w W → W.cell? ⟨lb, lo + k, none⟩ = some (.slice (f k).ba (f k).bn (f k).bc) := fun W hW => by
            obtain ⟨b', o', e, _, h'⟩ := hL.at_ hW hlt
            cases e
            exact h'
          have gL' := Lib.hid gL
          have hneR' := Lib.hid hneR
          generalize f k = r at *
          have oC1 : C.off + r.bn < 1099511627776 := by omega
          have oS1 : S.off + r.bn < 1099511627776 := by omega
          have iC1 : C.id < 1099511627776 := by omega
          have iS1 : S.id < 1099511627776 := by omega
          have n100 : r.bn ≤ 100000 := by omega
          have hA := h6.below (Below.refl w6.heap.size w6).drew
          have hkA : Ciph w6.drew bk C := hk6.grown (grown_drew w6 none) (by simp)
          have g6 := gL w6.drew hA.hb
          clear gL hneR hL hK g1 h6 hk6 hbk
          go_wp2_with fail
          go_cut [116] (fun t W => t = .bool false ∧ Four w W bc bm bs bt (C.after r.bn) (C.after r.bn) (S.after r.bn) (S.after r.bn) ∧ Ciph W bk C)
          case first =>
            -- REGION
            refine wp_region_held_drew (S := fun W => W.cell? ⟨lb, lo + k, none⟩ = some (.slice r.ba r.bn r.bc)) (by kernel_rfl) g6 (fun hHeld => ?_)
            refine held_take (i := 0) (v := ?_) rfl (by kernel_rfl) (by kernel_rfl) (by kernel_rfl) (fun _ _ _ h => h) (Or.inl ⟨by kernel_rfl, ?_⟩) (by assumption) ?_
            rotate_left
            · intro w hSw
              (try dsimp only at hSw)
              go_split_ands
              go_simp
              all_goals with_reducible rfl
            simp only [List.setIfInBounds_toArray, List.set_cons_zero, List.set_cons_succ]
            refine held_take (i := 1) (v := ?_) rfl (by kernel_rfl) (by kernel_rfl) (by kernel_rfl) (fun _ _ _ h => h) (Or.inl ⟨by kernel_rfl, ?_⟩) (by assumption) ?_
            rotate_left
            · intro w hSw
              (try dsimp only at hSw)
              go_split_ands
              go_simp
              all_goals with_reducible rfl
            simp only [List.setIfInBounds_toArray, List.set_cons_zero, List.set_cons_succ]
            refine held_take (i := 2) (v := ?_) rfl (by kernel_rfl) (by kernel_rfl) (by kernel_rfl) (fun _ _ _ h => h) (Or.inl ⟨by kernel_rfl, ?_⟩) (by assumption) ?_
            rotate_left
            · intro w hSw
              (try dsimp only at hSw)
              go_split_ands
              go_simp
              all_goals with_reducible rfl
            simp only [List.setIfInBounds_toArray, List.set_cons_zero, List.set_cons_succ]
            refine held_take (i := 3) (v := ?_) rfl (by kernel_rfl) (by kernel_rfl) (by kernel_rfl) (fun _ _ _ h => h) (Or.inl ⟨by kernel_rfl, ?_⟩) (by assumption) ?_
            rotate_left
            · intro w hSw
              (try dsimp only at hSw)
              go_split_ands
              go_simp
              all_goals with_reducible rfl
            simp only [List.setIfInBounds_toArray, List.set_cons_zero, List.set_cons_succ]
            refine held_take (i := 4) (v := ?_) rfl (by kernel_rfl) (by kernel_rfl) (by kernel_rfl) (fun _ _ _ h => h) (Or.inl ⟨by kernel_rfl, ?_⟩) (by assumption) ?_
            rotate_left
            · intro w hSw
              (try dsimp only at hSw)
              go_split_ands
              go_simp
              all_goals with_reducible rfl
            simp only [List.setIfInBounds_toArray, List.set_cons_zero, List.set_cons_succ]
            refine held_take (i := 6) (v := ?_) rfl (by kernel_rfl) (by kernel_rfl) (by kernel_rfl) (fun _ _ _ h => h) (Or.inl ⟨by kernel_rfl, ?_⟩) (by assumption) ?_
            rotate_left
            · intro w hSw
              (try dsimp only at hSw)
              go_split_ands
              go_simp
              all_goals with_reducible rfl
            simp only [List.setIfInBounds_toArray, List.set_cons_zero, List.set_cons_succ]
            refine held_take (i := 7) (v := ?_) rfl (by kernel_rfl) (by kernel_rfl) (by kernel_rfl) (fun _ _ _ h => h) (Or.inl ⟨by kernel_rfl, ?_⟩) (by assumption) ?_
            rotate_left
            · intro w hSw
              (try dsimp only at hSw)
              go_split_ands
              go_simp
              all_goals with_reducible rfl
            simp only [List.setIfInBounds_toArray, List.set_cons_zero, List.set_cons_succ]
            refine held_take (i := 8) (v := ?_) rfl (by kernel_rfl) (by kernel_rfl) (by kernel_rfl) (fun _ _ _ h => h) (Or.inl ⟨by kernel_rfl, ?_⟩) (by assumption) ?_
            rotate_left
            · intro w hSw
              (try dsimp only at hSw)
              go_split_ands
              go_simp
              all_goals with_reducible rfl
            simp only [List.setIfInBounds_toArray, List.set_cons_zero, List.set_cons_succ]
            refine held_take (i := 9) (v := ?_) rfl (by kernel_rfl) (by kernel_rfl) (by kernel_rfl) (fun _ _ _ h => h) (Or.inl ⟨by kernel_rfl, ?_⟩) (by assumption) ?_
            rotate_left
            · intro w hSw
              (try dsimp only at hSw)
              go_split_ands
              go_simp
              all_goals with_reducible rfl
            simp only [List.setIfInBounds_toArray, List.set_cons_zero, List.set_cons_succ]
            refine held_take (i := 10) (v := ?_) rfl (by kernel_rfl) (by kernel_rfl) (by kernel_rfl) (fun _ _ _ h => h) (Or.inl ⟨by kernel_rfl, ?_⟩) (by assumption) ?_
            rotate_left
            · intro w hSw
              (try dsimp only at hSw)
              go_split_ands
              go_simp
              all_goals with_reducible rfl
            simp only [List.setIfInBounds_toArray, List.set_cons_zero, List.set_cons_succ]
            refine wpAnyH_ready (rs := [5]) (by kernel_rfl) (by simp) ?_
            refine AllReadyH.cons rfl (fun K hK => ?_) AllReadyH.nil
            go_simp
            go_wp2_with (go_at_call 11; refine (Xor_any bc C _ r.ba r.bn r.bc r.bytes hA.c (hR.below hA.hb (Nat.le_refl _)) (hneR'.out _ hA.gc) oC1 iC1).mono ?_; rintro e w7 ⟨rfl, o1, hc, hg⟩; have hB := hA.setC hc hg; have k7 := hkA.grown hg (by simpa using nkc); have g7 := gL'.out w7 hB.hb; clear hc hg)
            refine hK.out _ _ ?_ (fun hHeld => ?_)
            · exact g7
            clear hK K
            refine wpAnyH_ready (rs := [11]) (by kernel_rfl) (by simp) ?_
            refine AllReadyH.cons rfl (fun K hK => ?_) AllReadyH.nil
            go_simp
            go_wp2_with (go_at_call 18; refine (rXor_any bm C _ r.ba r.bn r.bc r.bytes hB.m (hR.below hB.hb (Nat.le_refl _)) (hneR'.out _ hB.gm) oC1 iC1 n100).mono ?_; rintro e w8 ⟨v8, rfl, o2, hc, hg⟩; have hD := hB.setM hc hg; have k8 := k7.grown hg (by simpa using types_ne k7 hB.m); have g8 := gL'.out w8 hD.hb; have p1 := own_bts (own_grown o1 hg lm) (by omega); obtain ⟨a8, c8, rfl, p2⟩ := own_slice_bts o2 (by omega); clear hc hg o1 o2)
            refine hK.out _ _ ?_ (fun hHeld => ?_)
            · exact g8
            clear hK K
            refine wpAnyH_ready (rs := [12]) (by kernel_rfl) (by simp) ?_
            refine AllReadyH.cons rfl (fun K hK => ?_) AllReadyH.nil
            go_simp
            go_wp2_with (go_at_call 12; refine (same_eq _ _ _ _ _ _ _ _ p1 p2).mono ?_; rintro e w9 ⟨rfl, hz⟩; have hE := hD.below hz; have k9 := k8.below hz k8.lt; have g9 := gL'.out w9 hE.hb; have q9 := hE.m.off; clear hz)
            refine hK.out _ _ ?_ (fun hHeld => ?_)
            · exact g9
            clear hK K
            refine held_take (i := 13) (v := ?_) rfl (by kernel_rfl) (by kernel_rfl) (by kernel_rfl) (fun _ _ _ h => h) (Or.inl ⟨by kernel_rfl, ?_⟩) (by assumption) ?_
            rotate_left
            · intro w hSw
              (try dsimp only at hSw)
              go_split_ands
              go_simp
              all_goals with_reducible rfl
            simp only [List.setIfInBounds_toArray, List.set_cons_zero, List.set_cons_succ]
            refine held_take (i := 14) (v := ?_) rfl (by kernel_rfl) (by kernel_rfl) (by kernel_rfl) (fun _ _ _ h => h) (Or.inl ⟨by kernel_rfl, ?_⟩) (by assumption) ?_
            rotate_left
            · intro w hSw
              (try dsimp only at hSw)
              go_split_ands
              go_simp
              all_goals with_reducible rfl
            simp only [List.setIfInBounds_toArray, List.set_cons_zero, List.set_cons_succ]
            refine wpAnyH_mono (S' := fun W => W.cell? ⟨lb, lo + k, none⟩ = some (.slice r.ba r.bn r.bc) ∧ W.cell? ⟨bm, 258, none⟩ = some (.int .i64 ((C.after r.bn).off : Int))) (fun _ h => h.1) _ _ _ _ ?_
            have hHeld := (⟨g9, q9⟩ : _ ∧ _)
            refine held_take (i := 15) (v := ?_) rfl (by kernel_rfl) (by kernel_rfl) (by kernel_rfl) (fun _ _ _ h => h) (Or.inl ⟨by kernel_rfl, ?_⟩) (by assumption) ?_
            rotate_left
            · intro w hSw
              (try dsimp only at hSw)
              go_split_ands
              go_simp
              all_goals with_reducible rfl
            simp only [List.setIfInBounds_toArray, List.set_cons_zero, List.set_cons_succ]
            refine held_take (i := 17) (v := ?_) rfl (by kernel_rfl) (by kernel_rfl) (by kernel_rfl) (fun _ _ _ h => h) (Or.inl ⟨by kernel_rfl, ?_⟩) (by assumption) ?_
            rotate_left
            · intro w hSw
              (try dsimp only at hSw)
              go_split_ands
              go_simp
              all_goals with_reducible rfl
            simp only [List.setIfInBounds_toArray, List.set_cons_zero, List.set_cons_succ]
            refine held_take (i := 18) (v := ?_) rfl (by kernel_rfl) (by kernel_rfl) (by kernel_rfl) (fun _ _ _ h => h) (Or.inl ⟨by kernel_rfl, ?_⟩) (by assumption) ?_
            rotate_left
            · intro w hSw
              (try dsimp only at hSw)
              go_split_ands
              go_simp
              all_goals with_reducible rfl
            simp only [List.setIfInBounds_toArray, List.set_cons_zero, List.set_cons_succ]
            refine held_take (i := 19) (v := ?_) rfl (by kernel_rfl) (by kernel_rfl) (by kernel_rfl) (fun _ _ _ h => h) (Or.inl ⟨by kernel_rfl, ?_⟩) (by assumption) ?_
            rotate_left
            · intro w hSw
              (try dsimp only at hSw)
              go_split_ands
              go_simp
              all_goals with_reducible rfl
            simp only [List.setIfInBounds_toArray, List.set_cons_zero, List.set_cons_succ]
            refine held_take (i := 20) (v := ?_) rfl (by kernel_rfl) (by kernel_rfl) (by kernel_rfl) (fun _ _ _ h => h) (Or.inl ⟨by kernel_rfl, ?_⟩) (by assumption) ?_
            rotate_left
            · intro w hSw
              (try dsimp only at hSw)
              go_split_ands
              go_simp
              all_goals with_reducible rfl
            simp only [List.setIfInBounds_toArray, List.set_cons_zero, List.set_cons_succ]
            refine wpAnyH_ready (rs := [16]) (by kernel_rfl) (by simp) ?_
            refine AllReadyH.cons rfl (fun K hK => ?_) AllReadyH.nil
            go_simp
            go_wp2_with (go_at_call 19; refine (offset_any bc _ _ hE.c).mono ?_; rintro e w' ⟨rfl, rfl⟩)
            refine hK.out _ _ ?_ (fun hHeld => ?_)
            · exact ⟨g9, q9⟩
            clear hK K
            refine held_take (i := 21) (v := ?_) rfl (by kernel_rfl) (by kernel_rfl) (by kernel_rfl) (fun _ _ _ h => h) (Or.inl ⟨by kernel_rfl, ?_⟩) (by assumption) ?_
            rotate_left
            · intro w hSw
              (try dsimp only at hSw)
              go_split_ands
              go_simp
              all_goals with_reducible rfl
            simp only [List.setIfInBounds_toArray, List.set_cons_zero, List.set_cons_succ]
            refine held_take (i := 22) (v := ?_) rfl (by kernel_rfl) (by kernel_rfl) (by kernel_rfl) (fun _ _ _ h => h) (Or.inl ⟨by kernel_rfl, ?_⟩) (by assumption) ?_
            rotate_left
            · intro w hSw
              (try dsimp only at hSw)
              go_split_ands
              go_simp
              all_goals with_reducible rfl
            simp only [List.setIfInBounds_toArray, List.set_cons_zero, List.set_cons_succ]
            refine held_take (i := 23) (v := ?_) rfl (by kernel_rfl) (by kernel_rfl) (by kernel_rfl) (fun _ _ _ h => h) (Or.inl ⟨by kernel_rfl, ?_⟩) (by assumption) ?_
            rotate_left
            · intro w hSw
              (try dsimp only at hSw)
              go_split_ands
              go_simp
              all_goals with_reducible rfl
            simp only [List.setIfInBounds_toArray, List.set_cons_zero, List.set_cons_succ]
            refine held_take (i := 24) (v := ?_) rfl (by kernel_rfl) (by kernel_rfl) (by kernel_rfl) (fun _ _ _ h => h) (Or.inl ⟨by kernel_rfl, ?_⟩) (by assumption) ?_
            rotate_left
            · intro w hSw
              (try dsimp only at hSw)
              go_split_ands
              go_simp
              all_goals with_reducible rfl
            simp only [List.setIfInBounds_toArray, List.set_cons_zero, List.set_cons_succ]
            refine held_take (i := 25) (v := ?_) rfl (by kernel_rfl) (by kernel_rfl) (by kernel_rfl) (fun _ _ _ h => h) (Or.inl ⟨by kernel_rfl, ?_⟩) (by assumption) ?_
            rotate_left
            · intro w hSw
              (try dsimp only at hSw)
              go_split_ands
              go_simp
              all_goals with_reducible rfl
            simp only [List.setIfInBounds_toArray, List.set_cons_zero, List.set_cons_succ]
            refine held_take (i := 26) (v := ?_) rfl (by kernel_rfl) (by kernel_rfl) (by kernel_rfl) (fun _ _ _ h => h) (Or.inl ⟨by kernel_rfl, ?_⟩) (by assumption) ?_
            rotate_left
            · intro w hSw
              (try dsimp only at hSw)
              go_split_ands
              go_simp
              all_goals with_reducible rfl
            simp only [List.setIfInBounds_toArray, List.set_cons_zero, List.set_cons_succ]
            refine held_take (i := 27) (v := ?_) rfl (by kernel_rfl) (by kernel_rfl) (by kernel_rfl) (fun _ _ _ h => h) (Or.inl ⟨by kernel_rfl, ?_⟩) (by assumption) ?_
            rotate_left
            · intro w hSw
              (try dsimp only at hSw)
              go_split_ands
              go_simp
              all_goals with_reducible rfl
            simp only [List.setIfInBounds_toArray, List.set_cons_zero, List.set_cons_succ]
            refine held_take (i := 28) (v := ?_) rfl (by kernel_rfl) (by kernel_rfl) (by kernel_rfl) (fun _ _ _ h => h) (Or.inl ⟨by kernel_rfl, ?_⟩) (by assumption) ?_
            rotate_left
            · intro w hSw
              (try dsimp only at hSw)
              go_split_ands
              go_simp
              all_goals with_reducible rfl
            simp only [List.setIfInBounds_toArray, List.set_cons_zero, List.set_cons_succ]
            refine held_take (i := 30) (v := ?_) rfl (by kernel_rfl) (by kernel_rfl) (by kernel_rfl) (fun _ _ _ h => h) (Or.inl ⟨by kernel_rfl, ?_⟩) (by assumption) ?_
            rotate_left
            · intro w hSw
              (try dsimp only at hSw)
              go_split_ands
              go_simp
              all_goals with_reducible rfl
            simp only [List.setIfInBounds_toArray, List.set_cons_zero, List.set_cons_succ]
            refine held_take (i := 31) (v := ?_) rfl (by kernel_rfl) (by kernel_rfl) (by kernel_rfl) (fun _ _ _ h => h) (Or.inl ⟨by kernel_rfl, ?_⟩) (by assumption) ?_
            rotate_left
            · intro w hSw
              (try dsimp only at hSw)
              go_split_ands
              go_simp
              all_goals with_reducible rfl
            simp only [List.setIfInBounds_toArray, List.set_cons_zero, List.set_cons_succ]
            refine held_take (i := 32) (v := ?_) rfl (by kernel_rfl) (by kernel_rfl) (by kernel_rfl) (fun _ _ _ h => h) (Or.inl ⟨by kernel_rfl, ?_⟩) (by assumption) ?_
            rotate_left
            · intro w hSw
              (try dsimp only at hSw)
              go_split_ands
              go_simp
              all_goals with_reducible rfl
            simp only [List.setIfInBounds_toArray, List.set_cons_zero, List.set_cons_succ]
            refine held_take (i := 33) (v := ?_) rfl (by kernel_rfl) (by kernel_rfl) (by kernel_rfl) (fun _ _ _ h => h) (Or.inl ⟨by kernel_rfl, ?_⟩) (by assumption) ?_
            rotate_left
            · intro w hSw
              (try dsimp only at hSw)
              go_split_ands
              go_simp
              all_goals with_reducible rfl
            simp only [List.setIfInBounds_toArray, List.set_cons_zero, List.set_cons_succ]
            refine held_take (i := 34) (v := ?_) rfl (by kernel_rfl) (by kernel_rfl) (by kernel_rfl) (fun _ _ _ h => h) (Or.inl ⟨by kernel_rfl, ?_⟩) (by assumption) ?_
            rotate_left
            · intro w hSw
              (try dsimp only at hSw)
              go_split_ands
              go_simp
              all_goals with_reducible rfl
            simp only [List.setIfInBounds_toArray, List.set_cons_zero, List.set_cons_succ]
            clear hB hD k7 k8 g7 g8 p1 p2
            refine wpAnyH_ready (rs := [29]) (by kernel_rfl) (by simp) ?_
            refine AllReadyH.cons rfl (fun K hK => ?_) AllReadyH.nil
            go_simp
            go_wp2_with (go_at_call 11; refine (Xor_any bs S _ r.ba r.bn r.bc r.bytes hE.s (hR.below hE.hb (Nat.le_refl _)) (hneR'.out _ hE.gs) oS1 (by omega)).mono ?_; rintro e w10 ⟨rfl, o1, hc, hg⟩; have hG := hE.setS hc hg; have k10 := k9.grown hg (by simpa using nks); have g10 := gL'.out w10 hG.hb; have q10 := hG.m.off; clear hc hg)
            refine hK.out _ _ ?_ (fun hHeld => ?_)
            · exact ⟨g10, q10⟩
            clear hK K
            refine wpAnyH_ready (rs := [35]) (by kernel_rfl) (by simp) ?_
            refine AllReadyH.cons rfl (fun K hK => ?_) AllReadyH.nil
            go_simp
            go_wp2_with (go_at_call 18; refine (rXor_any bt S _ r.ba r.bn r.bc r.bytes hG.t (hR.below hG.hb (Nat.le_refl _)) (hneR'.out _ hG.gt) oS1 (by omega) n100).mono ?_; rintro e w11 ⟨v11, rfl, o2, hc, hg⟩; have hH := hG.setT hc hg; have k11 := k10.grown hg (by simpa using types_ne k10 hG.t); have g11 := gL'.out w11 hH.hb; have q11 := hH.m.off; have p1 := own_bts (own_grown o1 hg hE.t.lt) (by omega); obtain ⟨a11, c11, rfl, p2⟩ := own_slice_bts o2 (by omega); clear hc hg o1 o2)
            refine hK.out _ _ ?_ (fun hHeld => ?_)
            · exact ⟨g11, q11⟩
            clear hK K
            refine wpAnyH_ready (rs := [36]) (by kernel_rfl) (by simp) ?_
            refine AllReadyH.cons rfl (fun K hK => ?_) AllReadyH.nil
            go_simp
            go_wp2_with (go_at_call 12; refine (same_eq _ _ _ _ _ _ _ _ p1 p2).mono ?_; rintro e w12 ⟨rfl, hz⟩; have hI := hH.below hz; have k12 := k11.below hz k11.lt; have g12 := gL'.out w12 hI.hb; have q12 := hI.m.off; have s12 := hI.t.off; clear hz)
            refine hK.out _ _ ?_ (fun hHeld => ?_)
            · exact ⟨g12, q12⟩
            clear hK K
            refine held_take (i := 37) (v := ?_) rfl (by kernel_rfl) (by kernel_rfl) (by kernel_rfl) (fun _ _ _ h => h) (Or.inl ⟨by kernel_rfl, ?_⟩) (by assumption) ?_
            rotate_left
            · intro w hSw
              (try dsimp only at hSw)
              go_split_ands
              go_simp
              all_goals with_reducible rfl
            simp only [List.setIfInBounds_toArray, List.set_cons_zero, List.set_cons_succ]
            refine held_take (i := 38) (v := ?_) rfl (by kernel_rfl) (by kernel_rfl) (by kernel_rfl) (fun _ _ _ h => h) (Or.inl ⟨by kernel_rfl, ?_⟩) (by assumption) ?_
            rotate_left
            · intro w hSw
              (try dsimp only at hSw)
              go_split_ands
              go_simp
              all_goals with_reducible rfl
            simp only [List.setIfInBounds_toArray, List.set_cons_zero, List.set_cons_succ]
            refine held_take (i := 39) (v := ?_) rfl (by kernel_rfl) (by kernel_rfl) (by kernel_rfl) (fun _ _ _ h => h) (Or.inl ⟨by kernel_rfl, ?_⟩) (by assumption) ?_
            rotate_left
            · intro w hSw
              (try dsimp only at hSw)
              go_split_ands
              go_simp
              all_goals with_reducible rfl
            simp only [List.setIfInBounds_toArray, List.set_cons_zero, List.set_cons_succ]
            refine wpAnyH_mono (S' := fun W => W.cell? ⟨lb, lo + k, none⟩ = some (.slice r.ba r.bn r.bc) ∧ W.cell? ⟨bm, 258, none⟩ = some (.int .i64 ((C.after r.bn).off : Int)) ∧ W.cell? ⟨bt, 258, none⟩ = some (.int .i64 ((S.after r.bn).off : Int))) (fun _ h => ⟨h.1, h.2.1⟩) _ _ _ _ ?_
            have hHeld := (⟨g12, q12, s12⟩ : _ ∧ _ ∧ _)
            refine held_take (i := 40) (v := ?_) rfl (by kernel_rfl) (by kernel_rfl) (by kernel_rfl) (fun _ _ _ h => h) (Or.inl ⟨by kernel_rfl, ?_⟩) (by assumption) ?_
            rotate_left
            · intro w hSw
              (try dsimp only at hSw)
              go_split_ands
              go_simp
              all_goals with_reducible rfl
            simp only [List.setIfInBounds_toArray, List.set_cons_zero, List.set_cons_succ]
            refine held_take (i := 42) (v := ?_) rfl (by kernel_rfl) (by kernel_rfl) (by kernel_rfl) (fun _ _ _ h => h) (Or.inl ⟨by kernel_rfl, ?_⟩) (by assumption) ?_
            rotate_left
            · intro w hSw
              (try dsimp only at hSw)
              go_split_ands
              go_simp
              all_goals with_reducible rfl
            simp only [List.setIfInBounds_toArray, List.set_cons_zero, List.set_cons_succ]
            refine held_take (i := 43) (v := ?_) rfl (by kernel_rfl) (by kernel_rfl) (by kernel_rfl) (fun _ _ _ h => h) (Or.inl ⟨by kernel_rfl, ?_⟩) (by assumption) ?_
            rotate_left
            · intro w hSw
              (try dsimp only at hSw)
              go_split_ands
              go_simp
              all_goals with_reducible rfl
            simp only [List.setIfInBounds_toArray, List.set_cons_zero, List.set_cons_succ]
            refine held_take (i := 44) (v := ?_) rfl (by kernel_rfl) (by kernel_rfl) (by kernel_rfl) (fun _ _ _ h => h) (Or.inl ⟨by kernel_rfl, ?_⟩) (by assumption) ?_
            rotate_left
            · intro w hSw
              (try dsimp only at hSw)
              go_split_ands
              go_simp
              all_goals with_reducible rfl
            simp only [List.setIfInBounds_toArray, List.set_cons_zero, List.set_cons_succ]
            refine held_take (i := 45) (v := ?_) rfl (by kernel_rfl) (by kernel_rfl) (by kernel_rfl) (fun _ _ _ h => h) (Or.inl ⟨by kernel_rfl, ?_⟩) (by assumption) ?_
            rotate_left
            · intro w hSw
              (try dsimp only at hSw)
              go_split_ands
              go_simp
              all_goals with_reducible rfl
            simp only [List.setIfInBounds_toArray, List.set_cons_zero, List.set_cons_succ]
            refine wpAnyH_ready (rs := [41]) (by kernel_rfl) (by simp) ?_
            refine AllReadyH.cons rfl (fun K hK => ?_) AllReadyH.nil
            go_simp
            go_wp2_with (go_at_call 19; refine (offset_any bs _ _ hI.s).mono ?_; rintro e w' ⟨rfl, rfl⟩)
            refine hK.out _ _ ?_ (fun hHeld => ?_)
            · exact ⟨g12, q12, s12⟩
            clear hK K
            refine held_take (i := 46) (v := ?_) rfl (by kernel_rfl) (by kernel_rfl) (by kernel_rfl) (fun _ _ _ h => h) (Or.inl ⟨by kernel_rfl, ?_⟩) (by assumption) ?_
            rotate_left
            · intro w hSw
              (try dsimp only at hSw)
              go_split_ands
              go_simp
              all_goals with_reducible rfl
            simp only [List.setIfInBounds_toArray, List.set_cons_zero, List.set_cons_succ]
            refine held_take (i := 47) (v := ?_) rfl (by kernel_rfl) (by kernel_rfl) (by kernel_rfl) (fun _ _ _ h => h) (Or.inl ⟨by kernel_rfl, ?_⟩) (by assumption) ?_
            rotate_left
            · intro w hSw
              (try dsimp only at hSw)
              go_split_ands
              go_simp
              all_goals with_reducible rfl
            simp only [List.setIfInBounds_toArray, List.set_cons_zero, List.set_cons_succ]
            refine wpAnyH_done (by kernel_rfl) ?_ _
            go_wp2_with fail
            go_meet
            exact ⟨rfl, hI, k12⟩
            -- END
          case rest =>
            obtain ⟨rfl, h7, hk7⟩ := hcut
            clear hA hkA g6
            have g7 := gL'.out _ h7.hb
            have oo1 := C.after_off r.bn
            have oo2 := S.after_off r.bn
            have ii1 := C.after_id r.bn
            have ii2 := S.after_id r.bn
            have hX := Xor_any bk C _ r.ba r.bn r.bc r.bytes hk7 (hR.below h7.hb (Nat.le_refl _)) (hneR'.out _ gk) oC1 iC1
            clear hneR' gL' hR
            generalize C.after r.bn = C2 at *
            generalize S.after r.bn = S2 at *
            go_wp2_with fail
            refine hX.mono ?_
            rintro e w13 ⟨rfl, -, hc, hg⟩
            clear hX g7
            have h8 : Four w w13 bc bm bs bt C2 C2 S2 S2 :=
              ⟨h7.c.grown hg (by simpa using nkc.symm), h7.m.grown hg (by simpa using (types_ne hk7 h7.m).symm), h7.s.grown hg (by simpa using nks.symm), h7.t.grown hg (by simpa using (types_ne hk7 h7.t).symm), h7.ns, h7.nt, h7.gc, h7.gm, h7.gs, h7.gt, below_grow h7.hb hg h7.hb.size gk⟩
            clear h7 hk7 hg
            have hm : (k : Int).tmod 2 = ((k % 2 : Nat) : Int) := by rw [Int.tmod_eq_emod_of_nonneg (by omega)]; omega
            by_cases hp : k % 2 = 1
            · have hp' : (((k % 2 : Nat) : Int) == 1) = true := by simp; omega
              have h9 : Four w w13 bk bm bs bt C2 C2 S2 S2 := ⟨hc, h8.m, h8.s, h8.t, nks, h8.nt, gk, h8.gm, h8.gs, h8.gt, h8.hb⟩
              clear h8 hc
              go_wp2_with fail
              go_roundw
              case rel => exact ⟨k + 1, bk, C2, S2, by omega, by go_num, rfl, h9, by omega, by omega, by omega, by omega⟩
              case measure => simp [intOf]; omega
            · have hp' : (((k % 2 : Nat) : Int) == 1) = false := by simp; omega
              clear hc
              go_wp2_with fail
              go_roundw
              case rel => exact ⟨k + 1, bc, C2, S2, by omega, by go_num, rfl, h8, by omega, by omega, by omega, by omega⟩
              case measure => simp [intOf]; omega
        · go_wp2_with fail
          go_ret
          exact ⟨rfl, h.hb⟩
end Go.Proofs.Ytokfophpjkglmaa
