/-
  The walk of the statement HuffBack. No conditions.
-/
import Derived.Test.YtdfoimgckahjpaaHuffAw
import Derived.Test.YtdfoimgckahjpaaHuffTake
import Derived.Test.YtdfoimgckahjpaaHuffBits
import Derived.Deep.CutBlock
namespace Go.Proofs.Ytdfoimgckahjpaa
open Go.RowKit
theorem getD_app_right (A B : List Bool) (j : Nat) : (A ++ B).getD (A.length + j) false = B.getD j false := by
  simp only [List.getD_eq_getElem?_getD]
  rw [List.getElem?_append_right (by omega), Nat.add_sub_cancel_left]
theorem getD_app_left {A : List Bool} (B : List Bool) {j : Nat} (h : j < A.length) : (A ++ B).getD j false = A.getD j false := by
  simp only [List.getD_eq_getElem?_getD]
  rw [List.getElem?_append_left h]
theorem allBits_split (L S : List Nat) {k : Nat} (h : k < S.length) : allBits L S = allBits L (S.take k) ++ (codeBits L (S.getD k 0) ++ allBits L (S.drop (k + 1))) := by
  have e : S = S.take k ++ (S.getD k 0 :: S.drop (k + 1)) := by
    rw [List.getD_eq_getElem?_getD, List.getElem?_eq_getElem h]
    show S = S.take k ++ (S[k] :: S.drop (k + 1))
    rw [← List.drop_eq_getElem_cons h, List.take_append_drop]
  conv => lhs; rw [e]
  simp [allBits]
/-- what was put is taken -/
theorem back_tk {L S : List Nat} (hW : Whole L) (h15 : ∀ i, i < L.length → L.getD i 0 ≤ 15) {k : Nat} (hk : k < S.length) (h1 : S.getD k 0 < L.length) (h2 : 0 < L.getD (S.getD k 0) 0) :
    tk L (fun j => bitAt false (packB false (allBits L S)) ((allBits L (S.take k)).length + j)) (8 * (packB false (allBits L S)).length - (allBits L (S.take k)).length) 15 0 = (S.getD k 0, 0, L.getD (S.getD k 0) 0) := by
  have hs := allBits_split L S hk
  have hcl := codeBits_length L (S.getD k 0)
  refine tk_code h1 h2 (h15 _ h1) ?_ ?_
  · refine val_code (Nat.lt_of_lt_of_le (codeOf_lt h1 h2) (fst_le hW (h15 _ h1))) (fun j hj => ?_)
    rw [bitAt_packB, hs, getD_app_right, getD_app_left _ (by rw [hcl]; exact hj)]
    simp [codeBits, List.getD_eq_getElem?_getD] at hj ⊢
    simp [hj]
  · rw [packB_length, hs]
    simp only [List.length_append]
    omega
theorem allBits_take_le (L S : List Nat) (k : Nat) : (allBits L (S.take k)).length ≤ (allBits L S).length := by
  have e : allBits L S = allBits L (S.take k) ++ allBits L (S.drop k) := by
    conv => lhs; rw [← List.take_append_drop k S]
    unfold allBits
    rw [List.flatMap_append]
  rw [e, List.length_append]
  omega
/-- all that HuffBack holds, side by side -/
structure HBk (w0 w : World) (b B rb : Nat) (L U S : List Nat) (uv lv : Value) (a : Option Addr) (c : Nat) (l : List UInt8) (p : Nat) : Prop where
  t : Tb w b L
  u : Nums w B uv U
  s : Nums w B lv S
  r : Rd w rb a c false l p
  g : w0.heap.size ≤ rb
  hb : Below w0.heap.size w0 w
section
variable {w0 w w' : World} {b B rb : Nat} {L U S : List Nat} {uv lv : Value} {a : Option Addr} {c : Nat} {l : List UInt8} {p p' : Nat}
theorem HBk.below (h : HBk w0 w b B rb L U S uv lv a c l p) (hb : Below w.heap.size w w') : HBk w0 w' b B rb L U S uv lv a c l p :=
  ⟨h.t.below hb, h.u.below hb, h.s.below hb, h.r.below hb (Nat.le_refl _), h.g, h.hb.trans (hb.mono h.hb.size)⟩
theorem HBk.step (h : HBk w0 w b B rb L U S uv lv a c l p) (hr : Rd w' rb a c false l p') (hg : w.grownBy w' (some rb)) : HBk w0 w' b B rb L U S uv lv a c l p' := by
  have hb : ButOf (· = rb) w w' := ButOf.of_grown hg (fun i e => by cases e; rfl)
  exact ⟨h.t.grown h.r.blk (by decide) (by decide) hg, h.u.but hb (fun i hi e => own_blk_ne h.u h.r.blk (by decide) (by rw [hi, e])), h.s.but hb (fun i hi e => own_blk_ne h.s h.r.blk (by decide) (by rw [hi, e])), hr, h.g, below_grow h.hb hg h.hb.size h.g⟩
end
set_option maxRecDepth 100000 in
theorem back_big {a1 a2 : Option Addr} {n1 n2 c1 c2 : Nat} {w : World} (h : 320 < n1 ∨ 100 < n2) (hn1 : n1 ≤ 9223372036854775807) (hn2 : n2 ≤ 9223372036854775807) :
    Calls Try.prog 12 #[.slice a1 n1 c1, .slice a2 n2 c2] w fun e w' => e = .returned (.bool true) ∧ Below w.heap.size w w' := by
  by_cases h1 : 320 < n1
  · go_enter Try.func12, Try.ntmps12
    go_wp2_with (go_at_call 19; refine (awake_any _).mono ?_; rintro e w1 ⟨rfl, hb⟩)
    go_ret
    exact ⟨rfl, hb⟩
  · have h2 : 100 < n2 := by omega
    go_enter Try.func12, Try.ntmps12
    go_wp2_with (go_at_call 19; refine (awake_any _).mono ?_; rintro e w1 ⟨rfl, hb⟩)
    go_ret
    exact ⟨rfl, hb⟩
/-- one pick -/
theorem pick_at {w w' : World} {a : Option Addr} {n c : Nat} {zs : List Int} (h : IsRow .u16 w a n c zs) (hb : Below w.heap.size w w') {j : Nat} (hj : j < n) :
    ∃ (b o x : Nat), a = some ⟨b, o, none⟩ ∧ b < w.heap.size ∧ w'.cell? ⟨b, o + j, none⟩ = some (.int .u16 (x : Int)) ∧ x < 65536 := by
  have hle := h.le
  rcases h with ⟨rfl, rfl, rfl, rfl⟩ | ⟨x, rfl, h1, h2, h3, h4, h5⟩
  · omega
  · have hc := h4 j (by omega)
    have hx : x.spot = none := by
      have h0 := h4 0 (by omega)
      simp only [Addr.add, if_pos, World.cell?] at h0
      split at h0
      · cases hs : x.spot with
        | none => rfl
        | some s => simp [hs] at h0
      · cases h0
    obtain ⟨b, o, s⟩ := x
    simp only at hx
    subst hx
    have ha : (⟨b, o, none⟩ : Addr).add j = ⟨b, o + j, none⟩ := by unfold Addr.add; split <;> simp_all
    rw [ha] at hc
    have hlt := World.block_lt_of_cell? w _ hc
    have hz : zs.getD j 0 ∈ zs := by
      rw [List.getD_eq_getElem?_getD, List.getElem?_eq_getElem (show j < zs.length by omega)]
      exact List.getElem_mem _
    have hw := h5 _ hz
    have hb2 : 0 ≤ zs.getD j 0 ∧ zs.getD j 0 ≤ 65535 := by
      simpa [Lit.wf, IntKind.min, IntKind.max, IntKind.signed, IntKind.bits] using hw
    obtain ⟨y, hy⟩ := Int.eq_ofNat_of_zero_le hb2.1
    exact ⟨b, o, y, rfl, hlt, by rw [← hy]; exact (hb.cell (p := ⟨b, o + j, none⟩) hlt).trans hc, by omega⟩
set_option maxRecDepth 100000 in
set_option maxHeartbeats 8000000 in
theorem back_in {a1 a2 : Option Addr} {n1 n2 c1 c2 : Nat} {l zs : List Int} {w : World} (hL : Zs w a1 n1 c1 l) (hP : IsRow .u16 w a2 n2 c2 zs) (h1 : n1 ≤ 320) (h2 : n2 ≤ 100) :
    Calls Try.prog 12 #[.slice a1 n1 c1, .slice a2 n2 c2] w fun e w' => e = .returned (.bool true) ∧ Below w.heap.size w w' := by
  have hln := hL.len
  obtain ⟨i0, hi, hz0, hz1, hz2⟩ := info_parts info_int
  have hi' := Lib.hid hi
  clear hi
  go_enter Try.func12, Try.ntmps12
  go_wp2_with (go_at_call 19; refine (awake_any _).mono ?_; rintro e w1 ⟨rfl, hb⟩)
  refine (new_any (hL.below hb (Nat.le_refl _)) (by omega)).mono ?_
  intro e1 w2 hN
  have hb2 := hb.trans (hN.1.mono hb.size)
  rcases hN.2 with ⟨_, rfl⟩ | ⟨L, rfl, k1, k2, ⟨_, rfl⟩ | ⟨_, b, rfl, gb, hT⟩⟩
  · clear hN
    go_wp2_with fail
    go_ret
    exact ⟨rfl, hb2⟩
  · clear hN
    go_wp2_with fail
    go_ret
    exact ⟨rfl, hb2⟩
  have hLn : L.length = n1 := by simpa [ints] using hln
  have hs2 := hb2.size
  clear hN hln hb
  go_wp2_with fail
  go_loopw [7, 9] (fun v i wr => ∃ (k : Nat) (U : List Nat), k ≤ n1 ∧ i = .int .i64 (k : Nat) ∧ Nums wr w2.heap.size v U ∧ (∀ s, s ∈ U → s < k ∧ 0 < L.getD s 0) ∧ U.Pairwise (· ≠ ·) ∧ U.length ≤ k ∧ Below w2.heap.size w2 wr) (fun _ i _ => n1 - (intOf i).toNat)
  case atStart => exact ⟨0, [], by omega, rfl, Nums.nil _ _, by simp, List.Pairwise.nil, by simp, Below.refl _ _⟩
  case round =>
    obtain ⟨k, U, hk, rfl, hU, hin, hpw, hul, hbw⟩ := hrel
    have hbw0 := hb2.trans (hbw.mono hs2)
    by_cases hlt : k < n1
    · obtain ⟨b1, o1, rfl, hb1, g1⟩ := hL.at_ hbw0 hlt
      rw [ints_getD] at g1
      by_cases h0 : L.getD k 0 = 0
      · rw [h0] at g1
        replace hin := Lib.hid hin
        go_wp2_with fail
        go_roundw
        case rel => exact ⟨k + 1, U, by omega, by go_num, hU, fun s hs => ⟨by have := (hin.out s hs).1; omega, (hin.out s hs).2⟩, hpw, by omega, hbw⟩
        case measure => simp [intOf]; omega
      · have hin2 : ∀ s, s ∈ U ++ [k] → s < k + 1 ∧ 0 < L.getD s 0 := fun s hs => by
          rcases List.mem_append.1 hs with e | e
          · exact ⟨by have := (hin s e).1; omega, (hin s e).2⟩
          · rw [List.mem_singleton.1 e]; exact ⟨by omega, by omega⟩
        have hpw2 : (U ++ [k]).Pairwise (· ≠ ·) := List.pairwise_append.2 ⟨hpw, List.pairwise_singleton _ _, fun x hx y hy => by
          rw [List.mem_singleton.1 hy]; have := (hin x hx).1; omega⟩
        obtain ⟨av, cv, rfl⟩ := hU.form
        have hU' : wr.ownsRow w2.heap.size 3 1 (.slice av U.length cv) U.length (U.map nv) := hU
        have hX : 0 < ((L.getD k 0 : Nat) : Int) := by omega
        replace hin2 := Lib.hid hin2
        replace hpw2 := Lib.hid hpw2
        clear hin hpw
        generalize L.getD k 0 = X at *
        have hsz := hbw.size
        go_wp2_with (at_builtin; go_must (refine wp_app1_at rfl _ _ 35 rfl w2.heap.size 3 i0 _ 8 Try.underlying35 hi'.out hz0 hz1 hz2 rfl (.slice av U.length cv) U.length (U.map nv) rfl hU' (nv k) rfl rfl ?c1 ?c2 hsz ?_))
        case c1 => unfold maxLen; omega
        case c2 => omega
        intro v4 w4 ho4 hg4 _
        have hb4 := below_grown hbw hU' hg4 hsz
        have hU4 : Nums w4 w2.heap.size v4 (U ++ [k]) := by
          unfold Nums
          rw [List.length_append, List.map_append]
          exact ho4
        clear hU hU' hg4 ho4 hbw
        go_wp2_with fail
        go_roundw
        case rel => exact ⟨k + 1, U ++ [k], by omega, by go_num, hU4, hin2.out, hpw2.out, by simp; omega, hb4⟩
        case measure => simp [intOf]; omega
    · obtain rfl : k = n1 := by omega
      have hT3 := hT.below hbw
      obtain ⟨au, cu, rfl⟩ := hU.form
      have hs3 := hbw0.size
      have hs23 := hbw.size
      replace hin := Lib.hid hin
      replace hpw := Lib.hid hpw
      clear hT hbw hb2 hL
      obtain ⟨w3, hw3⟩ : ∃ w3, w3 = wr := ⟨_, rfl⟩
      subst hw3
      go_upto_block 2 with fail
      go_cut [8, 10] (fun v _ W => ∃ S : List Nat, Nums W w3.heap.size v S ∧ (∀ s, s ∈ S → s ∈ U) ∧ S.length ≤ 100 ∧ Below w3.heap.size w3 W)
      case first =>
        go_wp2_with fail
        go_loopw [8, 10] (fun v i wr => ∃ (j : Nat) (S : List Nat), j ≤ n2 ∧ i = .int .i64 (j : Nat) ∧ Nums wr w3.heap.size v S ∧ (∀ s, s ∈ S → s ∈ U) ∧ S.length ≤ j ∧ Below w3.heap.size w3 wr) (fun _ i _ => n2 - (intOf i).toNat)
        case atStart => exact ⟨0, [], by omega, rfl, Nums.nil _ _, by simp, by simp, Below.refl _ _⟩
        case round =>
          clear hin hpw hT3
          obtain ⟨j, S, hj, rfl, hS, hSU, hSl, hbr⟩ := hrel
          by_cases hU0 : U.length = 0
          · have hUI : (U.length : Int) = 0 := by omega
            replace hSU := Lib.hid hSU
            clear hU hU0
            generalize U.length = un at *
            by_cases hlt2 : j < n2
            · go_wp2_with fail
              go_meet
              exact ⟨S, hS, hSU.out, by omega, hbr⟩
            · go_wp2_with fail
              go_meet
              exact ⟨S, hS, hSU.out, by omega, hbr⟩
          · by_cases hlt2 : j < n2
            · have hbr0 := hbw0.trans (hbr.mono hs3)
              obtain ⟨b2, o2, x, rfl, hb2, g2, hx⟩ := pick_at hP hbr0 hlt2
              have hid : x % U.length < U.length := Nat.mod_lt _ (by omega)
              obtain ⟨r, rfl, g3⟩ := (hU.below hbr).cell hid
              have hmemU : U.getD (x % U.length) 0 ∈ U := by
                rw [List.getD_eq_getElem?_getD, List.getElem?_eq_getElem hid]; exact List.getElem_mem hid
              have hrem : (x : Int).tmod (U.length : Int) = ((x % U.length : Nat) : Int) := by rw [Int.tmod_eq_emod_of_nonneg (by omega)]; omega
              have hnz : ((U.length : Int) == 0) = false := by rw [beq_eq_false_iff_ne]; omega
              have hSU2 : ∀ s, s ∈ S ++ [U.getD (x % U.length) 0] → s ∈ U := fun s hs => by
                rcases List.mem_append.1 hs with e | e
                · exact hSU s e
                · rw [List.mem_singleton.1 e]; exact hmemU
              obtain ⟨av, cv, rfl⟩ := hS.form
              have hS' : wr.ownsRow w3.heap.size 3 1 (.slice av S.length cv) S.length (S.map nv) := hS
              have hidI : ((x % U.length : Nat) : Int) < (U.length : Int) := by omega
              have h0I : 0 < (U.length : Int) := by omega
              have hUlen := hul
              unfold nv at g3
              replace hSU2 := Lib.hid hSU2
              have hsz := hbr.size
              clear hSU hmemU hU hP hid hS
              generalize U.getD (x % U.length) 0 = y at *
              generalize x % U.length = ix at *
              go_wp2_with (at_builtin; go_must (refine wp_app1_at rfl _ _ 35 rfl w3.heap.size 3 i0 _ 8 Try.underlying35 hi'.out hz0 hz1 hz2 rfl (.slice av S.length cv) S.length (S.map nv) rfl hS' (nv y) rfl rfl ?c1 ?c2 hsz ?_))
              case c1 => unfold maxLen; omega
              case c2 => omega
              intro v4 w4 ho4 hg4 _
              have hb4 := below_grown hbr hS' hg4 hsz
              have hS4 : Nums w4 w3.heap.size v4 (S ++ [y]) := by
                unfold Nums
                rw [List.length_append, List.map_append]
                exact ho4
              clear hS' hg4 ho4 hbr
              go_wp2_with fail
              go_roundw
              case rel => exact ⟨j + 1, S ++ [y], by omega, by go_num, hS4, hSU2.out, by simp; omega, hb4⟩
              case measure => simp [intOf]; omega
            · go_wp2_with fail
              go_meet
              exact ⟨S, hS, hSU, by omega, hbr⟩
      case rest =>
        obtain ⟨S, hS, hSU, hSl, hbc⟩ := hcut
        obtain ⟨as_, cs, rfl⟩ := hS.form
        have hTc := hT3.below hbc
        have hUc := hU.below hbc
        have hb5 := hbw0.trans (hbc.mono hs3)
        have hval : ∀ s, s ∈ U → s < L.length ∧ 0 < L.getD s 0 := fun s hs => ⟨by rw [hLn]; exact (hin.out s hs).1, (hin.out s hs).2⟩
        have hBO := bitsOf_any hTc hS (fun s hs => hval s (hSU s hs)) (by omega)
        clear hi' hz0 hz1 hz2 hT3 hU hP
        obtain ⟨lb, hlb⟩ : ∃ lb, packB false (allBits L S) = lb := ⟨_, rfl⟩
        have hlbl : lb.length = ((allBits L S).length + 7) / 8 := by rw [← hlb, packB_length]
        have htot : (allBits L S).length ≤ 1500 := by
          have := allBits_le hTc.le15 S (fun s hs => (hval s (hSU s hs)).1)
          omega
        rw [hlb] at hBO
        have hlb1 : lb.length ≤ 140737488355328 := by omega
        have hlb2 : lb.length ≤ 1099511627776 := by omega
        replace hlbl := Lib.hid hlbl
        replace hlb := Lib.hid hlb
        obtain ⟨w4, hw4⟩ : ∃ w4, w4 = wc := ⟨_, rfl⟩
        subst hw4
        replace hin := Lib.hid hval
        replace hSU := Lib.hid hSU
        clear hbw0 hbc hs23 hval
        go_wp2_with fail
        refine hBO.mono ?_
        rintro e w5 ⟨a', c', rfl, ho, hb6⟩
        have hBt := own_bts ho hlb1
        have hb7 := hb5.trans (hb6.mono hb5.size)
        have hTc := hTc.below hb6
        have hUc := hUc.below hb6
        have hS := hS.below hb6
        clear hBO hb5 hb6 ho
        go_wp2_with fail
        refine (new_reader _ _ _ lb false _ hBt hlb2).mono ?_
        rintro e w6 ⟨rb, a6, c6, rfl, hR, hge, -, hb6⟩
        have hH : HBk w w6 b w.heap.size rb L U S (.slice au U.length cu) (.slice as_ S.length cs) a6 c6 lb 0 :=
          ⟨hTc.below hb6, (hUc.below hb6).mono (by omega), (hS.below hb6).mono (by omega), hR, by have := hb7.size; omega, hb7.trans (hb6.mono hb7.size)⟩
        clear hTc hUc hS hBt hb7 hb6 hR hge
        go_wp2_with fail
        go_loopw [14] (fun i W => ∃ j : Nat, j ≤ S.length ∧ i = .int .i64 (j : Nat) ∧ HBk w W b w.heap.size rb L U S (.slice au U.length cu) (.slice as_ S.length cs) a6 c6 lb (allBits L (S.take j)).length) (fun i _ => S.length - (intOf i).toNat)
        case atStart => exact ⟨0, by omega, rfl, hH⟩
        case round =>
          clear hH
          obtain ⟨j, hj, rfl, hH⟩ := hrel
          by_cases hlt3 : j < S.length
          · have hsj : S.getD j 0 ∈ S := by
              rw [List.getD_eq_getElem?_getD, List.getElem?_eq_getElem hlt3]; exact List.getElem_mem hlt3
            obtain ⟨m1, m2⟩ := hin.out _ (hSU.out _ hsj)
            have hbk := back_tk hH.t.whole hH.t.le15 hlt3 m1 m2
            rw [hlb.out] at hbk
            have htk := htake_any hH.t hH.r
            rw [hbk] at htk
            have hnext : (allBits L (S.take j)).length + L.getD (S.getD j 0) 0 = (allBits L (S.take (j + 1))).length := by
              have e : S.take (j + 1) = S.take j ++ [S.getD j 0] := by
                rw [List.take_succ_eq_append_getElem hlt3, List.getD_eq_getElem?_getD, List.getElem?_eq_getElem hlt3]; rfl
              rw [e, allBits_snoc, List.length_append, codeBits_length]
            replace hH := Lib.hid hH
            replace hnext := Lib.hid hnext
            clear hbk hsj m1 m2
            go_wp2_with fail
            refine htk.mono ?_
            rintro e w7 ⟨rfl, hr1, hg1⟩
            simp only at hr1
            rw [hnext.out] at hr1
            have hH2 := hH.out.step hr1 hg1
            obtain ⟨r, rfl, g1⟩ := hH2.s.cell hlt3
            unfold nv at g1
            clear htk hr1 hg1 hH
            unfold nv
            generalize S.getD j 0 = s at *
            replace hH2 := Lib.hid hH2
            go_wp2_with fail
            go_roundw
            case rel => exact ⟨j + 1, by omega, by go_num, hH2.out⟩
            case measure => simp [intOf]; omega
          · obtain rfl : j = S.length := by omega
            rw [List.take_length] at hH
            have hleft := fun m => left_any (hH.r.below (below_drewN (Below.refl _ _) m) (Nat.le_refl _))
            have hz8 : 8 * lb.length - (allBits L S).length < 8 := by rw [hlbl.out]; omega
            generalize 8 * lb.length - (allBits L S).length = Z at *
            have hz8I : (Z : Int) < 8 := by omega
            have hcd := fun m i (hi : i ∈ U) => code_in (hH.t.below (below_drewN (Below.refl _ _) m)) (hin.out i hi).1
            have hUcell := hH.u
            have hpf := fun x y hx hy hne => @prefix_free L x y (hin.out x hx).1 (hin.out y hy).1 hne (hin.out x hx).2
            have hcb : ∀ x, x ∈ U → codeOf L x ≤ 32768 ∧ L.getD x 0 ≤ 15 := fun x hx => by
              obtain ⟨q1, q2⟩ := hin.out x hx
              have q3 := hH.t.le15 x q1
              have q4 := codeOf_lt q1 q2
              have q5 := fst_le hH.t.whole q3
              have q6 := Nat.pow_le_pow_right (show 0 < 2 by decide) q3
              exact ⟨by omega, q3⟩
            have hUne : ∀ i k, i < U.length → k < U.length → i ≠ k → U.getD i 0 ≠ U.getD k 0 := fun i k hi hk hne => by
              rw [List.getD_eq_getElem?_getD, List.getElem?_eq_getElem hi, List.getD_eq_getElem?_getD, List.getElem?_eq_getElem hk]
              have h6 := List.pairwise_iff_getElem.1 hpw.out
              rcases Nat.lt_or_gt_of_ne hne with h | h
              · exact h6 i k hi hk h
              · exact (h6 k i hk hi h).symm
            have hUm : ∀ i, i < U.length → U.getD i 0 ∈ U := fun i hi => by
              rw [List.getD_eq_getElem?_getD, List.getElem?_eq_getElem hi]; exact List.getElem_mem hi
            have hbH := hH.hb
            replace hcd := Lib.hid hcd
            replace hUcell := Lib.hid hUcell
            replace hpf := Lib.hid hpf
            replace hcb := Lib.hid hcb
            replace hUne := Lib.hid hUne
            replace hUm := Lib.hid hUm
            replace hleft := Lib.hid hleft
            clear hH hz8 hlbl hlb hlb1 hlb2 htot hSl k2 k1 hin hSU hpw
            obtain ⟨w8, hw8⟩ : ∃ w8, w8 = wr := ⟨_, rfl⟩
            subst hw8
            go_wp2_with fail
            go_loopw [17] (fun i W => ∃ p m : Nat, p ≤ 40 ∧ i = .int .i64 (p : Nat) ∧ W = w8.drewN m) (fun i _ => 41 - (intOf i).toNat)
            case atStart => exact ⟨0, 0, by omega, rfl, rfl⟩
            case round =>
              obtain ⟨p, m, hp, rfl, rfl⟩ := hrel
              by_cases hA : p < U.length ∧ p < 40
              · obtain ⟨hA1, hA2⟩ := hA
                have hA1I : (p : Int) < (U.length : Int) := by omega
                have hA2I : (p : Int) < 40 := by omega
                have hxm := hUm.out p hA1
                obtain ⟨r, rfl, g1⟩ := hUcell.out.cell hA1
                unfold nv at g1
                generalize hx : U.getD p 0 = x at *
                replace hx := Lib.hid hx
                go_wp2_with fail
                go_loopw [18] (fun i W => ∃ q m : Nat, q ≤ 40 ∧ i = .int .i64 (q : Nat) ∧ W = w8.drewN m) (fun i _ => 41 - (intOf i).toNat)
                case atStart => exact ⟨0, m, by omega, rfl, rfl⟩
                case round =>
                  obtain ⟨q, m2, hq, rfl, rfl⟩ := hrel
                  by_cases hB : q < U.length ∧ q < 40
                  · obtain ⟨hB1, hB2⟩ := hB
                    have hB1I : (q : Int) < (U.length : Int) := by omega
                    have hB2I : (q : Int) < 40 := by omega
                    have hym := hUm.out q hB1
                    obtain ⟨r2, e2, g2⟩ := hUcell.out.cell hB1
                    cases e2
                    unfold nv at g2
                    have hne := hUne.out p q hA1 hB1
                    rw [hx.out] at hne
                    generalize U.getD q 0 = y at *
                    have h1 := hcd.out m2 x hxm
                    have h2 := fun m3 => hcd.out (m2 + m3) y hym
                    have hp2 := fun h => hpf.out x y hxm hym h
                    obtain ⟨b1, b2⟩ := hcb.out x hxm
                    obtain ⟨b3, b4⟩ := hcb.out y hym
                    unfold nv at h1 h2
                    generalize L.getD x 0 = N at *
                    generalize L.getD y 0 = M at *
                    generalize codeOf L x = A at *
                    generalize codeOf L y = C at *
                    replace h2 := Lib.hid h2
                    replace hp2 := Lib.hid hp2
                    replace hne := Lib.hid hne
                    go_wp2_with fail
                    refine h1.mono ?_
                    rintro e w9 ⟨rfl, m3, rfl⟩
                    go_wp2_with fail
                    refine (h2.out m3).mono ?_
                    rintro e w9 ⟨rfl, m4, rfl⟩
                    clear h1 h2
                    by_cases hpq : p = q
                    · subst hpq
                      clear hne hp2
                      go_wp2_with fail
                      go_roundw
                      case rel => exact ⟨p + 1, _, by omega, by go_num, rfl⟩
                      case measure => simp [intOf]; omega
                    · have hpqB : ((p : Int) != (q : Int)) = true := by simp; omega
                      by_cases hNM : N ≤ M
                      · have hdv := hp2.out (hne.out hpq) hNM
                        have hsub : (M : Int) - (N : Int) = ((M - N : Nat) : Int) := by omega
                        have hdiv : (C : Int) / 2 ^ (M - N) = ((C / 2 ^ (M - N) : Nat) : Int) := by simp
                        have hdI : ((C / 2 ^ (M - N) : Nat) : Int) ≠ (A : Int) := by omega
                        have hDb : M - N ≤ 15 := by omega
                        have hNMI : (N : Int) ≤ (M : Int) := by omega
                        clear hdv hne hp2 hNM
                        generalize M - N = D at *
                        generalize C / 2 ^ D = Y at *
                        have hYB : ((Y : Int) == (A : Int)) = false := by rw [beq_eq_false_iff_ne]; exact hdI
                        go_wp2_with fail
                        go_roundw
                        case rel => exact ⟨q + 1, _, by omega, by go_num, rfl⟩
                        case measure => simp [intOf]; omega
                      · have hNMI : ¬ ((N : Int) ≤ (M : Int)) := by omega
                        clear hne hp2
                        go_wp2_with fail
                        go_roundw
                        case rel => exact ⟨q + 1, _, by omega, by go_num, rfl⟩
                        case measure => simp [intOf]; omega
                  · by_cases hB1 : q < U.length
                    · have hB2 : ¬ q < 40 := fun e => hB ⟨hB1, e⟩
                      clear hB
                      go_wp2_with fail
                      go_roundw
                      case rel => exact ⟨p + 1, _, by omega, by go_num, rfl⟩
                      case measure => simp [intOf]; omega
                    · clear hB
                      go_wp2_with fail
                      go_roundw
                      case rel => exact ⟨p + 1, _, by omega, by go_num, rfl⟩
                      case measure => simp [intOf]; omega
              · have hfl := hleft.out m
                by_cases hA1 : p < U.length
                · have hA2 : ¬ p < 40 := fun e => hA ⟨hA1, e⟩
                  clear hA
                  go_wp2_with fail
                  refine hfl.mono ?_
                  rintro e w9 ⟨rfl, m3, rfl⟩
                  go_wp2_with fail
                  go_ret
                  exact ⟨rfl, below_drewN hbH _⟩
                · clear hA
                  go_wp2_with fail
                  refine hfl.mono ?_
                  rintro e w9 ⟨rfl, m3, rfl⟩
                  go_wp2_with fail
                  go_ret
                  exact ⟨rfl, below_drewN hbH _⟩
end Go.Proofs.Ytdfoimgckahjpaa
