/-
  The walk of huff.New. No conditions.
-/
import Derived.Test.YtdfoimgckahjpaaHuffNum
namespace Go.Proofs.Ytdfoimgckahjpaa
open Go.RowKit
/-- the lengths' counts of the first k -/
def cntTo (L : List Nat) (k : Nat) : Nat → Nat := cnt (L.take k)
/-- what New answers -/
def Newed (w : World) (l : List Int) (e : Ending) (w' : World) : Prop :=
  Below w.heap.size w w' ∧ (((320 < l.length ∨ ∃ x, x ∈ l ∧ (x < 0 ∨ 15 < x)) ∧ e = .returned (.tuple #[.pointer none, .int .i64 1])) ∨
    ∃ L : List Nat, l = ints L ∧ L.length ≤ 320 ∧ (∀ x, x ∈ L → x ≤ 15) ∧
      (wholeB L = false ∧ e = .returned (.tuple #[.pointer none, .int .i64 10]) ∨ wholeB L = true ∧ ∃ b, e = .returned (.tuple #[.pointer (some ⟨b, 0, none⟩), .int .i64 0]) ∧ w.heap.size ≤ b ∧ Tb w' b L))
theorem cnt_zero (M : List Nat) : cnt (M ++ [0]) = cnt M := by
  funext n
  unfold cnt
  by_cases h : n = 0
  · simp [h]
  · rw [if_neg h, if_neg h, List.count_append]
    have : ¬ (0 = n) := fun e => h e.symm
    simp [this]
theorem cnt_upd (M : List Nat) {x : Nat} (hx : 0 < x) : upd (cnt M) x (cnt M x + 1) = cnt (M ++ [x]) := by
  funext n
  unfold upd
  by_cases h : n = x
  · subst h
    rw [if_pos rfl, cnt_pos hx, cnt_pos hx, List.count_append]
    simp
  · rw [if_neg h]
    unfold cnt
    by_cases h0 : n = 0
    · simp [h0]
    · rw [if_neg h0, if_neg h0, List.count_append]
      have : ¬ (x = n) := fun e => h e.symm
      simp [this]
theorem ints_snoc (M : List Nat) (x : Nat) : ints (M ++ [x]) = ints M ++ [(x : Int)] := by simp [ints]
theorem take_snoc_int {l : List Int} {k : Nat} (h : k < l.length) : l.take (k + 1) = l.take k ++ [l.getD k 0] := by
  rw [List.take_succ_eq_append_getElem h, List.getD_eq_getElem?_getD, List.getElem?_eq_getElem h]; rfl
theorem getD_mem {l : List Int} {k : Nat} (h : k < l.length) : l.getD k 0 ∈ l := by
  rw [List.getD_eq_getElem?_getD, List.getElem?_eq_getElem h]; exact List.getElem_mem h
set_option maxRecDepth 100000 in
set_option maxHeartbeats 8000000 in
theorem new_any {w : World} {a : Option Addr} {n c : Nat} {l : List Int} (h : Zs w a n c l) (hmx : n ≤ 9223372036854775807) :
    Calls Try.prog 20 #[.slice a n c] w (Newed w l) := by
  have hl := h.len
  by_cases h320 : 320 < n
  · go_enter Try.func20, Try.ntmps20
    go_wp2_with fail
    go_ret2
    exact ⟨Below.refl _ _, .inl ⟨.inl (by omega), rfl⟩⟩
  obtain ⟨i0, hi, hz0, hz1, hz2⟩ := info_parts info_int
  have hcl : ∀ W, Below w.heap.size w W → Calls Try.prog 52 #[.slice a n c] W fun e w' => ∃ v, e = .returned v ∧ w'.ownsRow W.heap.size 3 1 v n (l.map zv) ∧ Below W.heap.size W w' :=
    fun W hW => clone_any (h.below hW (Nat.le_refl _)) (by omega)
  replace hcl := Lib.hid hcl
  have hmk := fun W => run_mkZ (P := Try.prog) (t := 35) (e := 3) Try.underlying35 hi hz0 hz1 hz2 n (by omega) W
  clear hi
  go_enter Try.func20, Try.ntmps20
  go_wp2_with fail
  go_cut [4] (fun t W => ∃ b cb B lv, t = .pointer (some ⟨b, 0, none⟩) ∧ Blk W b (tabV lv (.slice (some ⟨cb, 0, none⟩) n n) (.slice none 0 0) (cntTo [] 0)) 84 ∧ Blk W cb ((List.replicate n 0).map nv).toArray 3 ∧ W.ownsRow B 3 1 lv n (l.map zv) ∧ lv.ownBlock ≠ some cb ∧ w.heap.size ≤ B ∧ w.heap.size ≤ b ∧ w.heap.size ≤ cb ∧ Below w.heap.size w W)
  case first =>
    go_region_with (first | (go_at_call 52; refine (hcl.out _ (by first | exact (Below.refl _ _).drew | exact below_alloc (Below.refl _ _).drew _ (Nat.le_refl _) | exact (below_alloc (Below.refl _ _) _ (Nat.le_refl _)).drew)).mono ?_; rintro e w1 ⟨v, rfl, ho, hb⟩; obtain ⟨av, cv, rfl⟩ := own_form1 ho))
    · have s0 : w.drew.heap.size = w.heap.size := rfl
      have s1 := hb.size
      have s2 := alloc_size w1 (.cells (mkZ n) 3)
      have hb2 : Below w.heap.size w ((w1.alloc (.cells (mkZ n) 3)).alloc (.cells (tabV (.slice av n cv) (.slice (some ⟨w1.heap.size, 0, none⟩) n n) (.slice none 0 0) (cntTo [] 0)) 84)) :=
        below_alloc (below_alloc ((Below.refl w.heap.size w).drew.trans hb) _ (Nat.le_refl _)) _ (Nat.le_refl _)
      have n1 := Blk.new (w1.alloc (.cells (mkZ n) 3)) (tabV (.slice av n cv) (.slice (some ⟨w1.heap.size, 0, none⟩) n n) (.slice none 0 0) (cntTo [] 0)) 84
      have n2 := (Blk.new w1 (mkZ n) 3).below (below_alloc (Below.refl (w1.alloc (.cells (mkZ n) 3)).heap.size _) (.cells (tabV (.slice av n cv) (.slice (some ⟨w1.heap.size, 0, none⟩) n n) (.slice none 0 0) (cntTo [] 0)) 84) (Nat.le_refl _)) (by omega)
      have n3 := own_below ho (below_alloc (below_alloc (Below.refl w1.heap.size w1) (.cells (mkZ n) 3) (Nat.le_refl _)) (.cells (tabV (.slice av n cv) (.slice (some ⟨w1.heap.size, 0, none⟩) n n) (.slice none 0 0) (cntTo [] 0)) 84) (Nat.le_refl _))
      rw [s2] at n1
      have hne : (Value.slice av n cv).ownBlock ≠ some w1.heap.size := fun e => by have := (ho.lt _ e).2; omega
      clear hcl hmk s2
      go_wp2_with fail
      go_meet
      exact ⟨_, w1.heap.size, w.drew.heap.size, .slice av n cv, rfl, n1, by rw [← mkZ_map]; exact n2, n3, hne, by omega, by omega, by omega, hb2⟩
    · have s0 : (w.alloc (.cells (mkZ n) 3)).drew.heap.size = (w.alloc (.cells (mkZ n) 3)).heap.size := rfl
      have s1 := hb.size
      have s2 := alloc_size w (.cells (mkZ n) 3)
      have hbw := below_alloc (Below.refl w.heap.size w) (.cells (mkZ n) 3) (Nat.le_refl _)
      have hb2 : Below w.heap.size w (w1.alloc (.cells (tabV (.slice av n cv) (.slice (some ⟨w.heap.size, 0, none⟩) n n) (.slice none 0 0) (cntTo [] 0)) 84)) :=
        below_alloc (hbw.drew.trans (hb.mono (by omega))) _ (Nat.le_refl _)
      have n1 := Blk.new w1 (tabV (.slice av n cv) (.slice (some ⟨w.heap.size, 0, none⟩) n n) (.slice none 0 0) (cntTo [] 0)) 84
      have n0 : Blk (w.alloc (.cells (mkZ n) 3)).drew w.heap.size (mkZ n) 3 := (Blk.new w (mkZ n) 3).below (Below.refl _ _).drew (Blk.new w (mkZ n) 3).lt
      have n2 := (n0.below hb n0.lt).below (below_alloc (Below.refl w1.heap.size w1) (.cells (tabV (.slice av n cv) (.slice (some ⟨w.heap.size, 0, none⟩) n n) (.slice none 0 0) (cntTo [] 0)) 84) (Nat.le_refl _)) (by omega)
      have n3 := own_below ho (below_alloc (Below.refl w1.heap.size w1) (.cells (tabV (.slice av n cv) (.slice (some ⟨w.heap.size, 0, none⟩) n n) (.slice none 0 0) (cntTo [] 0)) 84) (Nat.le_refl _))
      have hne : (Value.slice av n cv).ownBlock ≠ some w.heap.size := fun e => by have := (ho.lt _ e).1; omega
      clear hcl hmk
      go_wp2_with fail
      go_meet
      exact ⟨_, w.heap.size, _, .slice av n cv, rfl, n1, by rw [← mkZ_map]; exact n2, n3, hne, by omega, by omega, by omega, hb2⟩
  case rest =>
    obtain ⟨b, cb, B, lv, rfl, hB, hC, hL, hne, g1, g2, g3, hb⟩ := hcut
    clear hcl hmk hz0 hz1 hz2
    have hbc := blk_ne hB hC (by decide)
    have hbl := own_blk_ne hL hB (by decide)
    go_wp2_with fail
    go_loopw [19] (fun i W => ∃ (k : Nat) (M : List Nat), k ≤ n ∧ i = .int .i64 (k : Nat) ∧ M.length = k ∧ l.take k = ints M ∧ (∀ x, x ∈ M → x ≤ 15) ∧ Blk W b (tabV lv (.slice (some ⟨cb, 0, none⟩) n n) (.slice none 0 0) (cnt M)) 84 ∧ Blk W cb ((List.replicate n 0).map nv).toArray 3 ∧ W.ownsRow B 3 1 lv n (l.map zv) ∧ Below w.heap.size w W) (fun i _ => n - (intOf i).toNat)
    case atStart => exact ⟨0, [], by omega, rfl, rfl, rfl, by simp, hB, hC, hL, hb⟩
    case round =>
      clear hB hC hL hb
      obtain ⟨k, M, hk, rfl, hM, hT, h15, hB, hC, hL, hb⟩ := hrel
      by_cases hlt : k < n
      · obtain ⟨b1, o1, rfl, hb1, g⟩ := h.at_ hb hlt
        have hmem := getD_mem (l := l) (k := k) (by omega)
        have htk := take_snoc_int (l := l) (k := k) (by omega)
        rw [hT] at htk
        generalize l.getD k 0 = x at *
        by_cases hx0 : x < 0
        · clear hB hC hL hT
          go_wp2_with fail
          go_ret2
          exact ⟨hb, .inl ⟨.inr ⟨x, hmem, .inl hx0⟩, rfl⟩⟩
        · by_cases hx1 : 15 < x
          · clear hB hC hL hT
            go_wp2_with fail
            go_ret2
            exact ⟨hb, .inl ⟨.inr ⟨x, hmem, .inr hx1⟩, rfl⟩⟩
          · obtain ⟨X, rfl⟩ := Int.eq_ofNat_of_zero_le (by omega : 0 ≤ x)
            rw [← ints_snoc] at htk
            have h15' : ∀ y, y ∈ M ++ [X] → y ≤ 15 := fun y hy => by
              rcases List.mem_append.1 hy with e | e
              · exact h15 y e
              · rw [List.mem_singleton.1 e]; omega
            replace htk := Lib.hid htk
            replace h15' := Lib.hid h15'
            clear hmem hT h15
            by_cases hz : X = 0
            · subst hz
              rw [← cnt_zero] at hB
              go_wp2_with fail
              go_roundw
              case rel => exact ⟨k + 1, M ++ [0], by omega, by go_num, by simp [hM], htk.out, h15'.out, hB, hC, hL, hb⟩
              case measure => simp [intOf]; omega
            · have g2 := hB.cell (3 + X)
              rw [tabV_count _ _ _ _ (by omega)] at g2
              unfold nv at g2
              have f2 := hB.free (3 + X) none
              have hcl := cnt_le (L := M) (by omega) X
              have hset := hB.set (3 + X) (nv (cnt M X + 1))
              rw [tabV_set _ _ _ _ _ (by omega), cnt_upd _ (by omega)] at hset
              have hset2 : Blk (wr.setCell ⟨b, 3 + X, none⟩ (.int .i64 ((cnt M X + 1 : Nat) : Int))) b (tabV lv (.slice (some ⟨cb, 0, none⟩) n n) (.slice none 0 0) (cnt (M ++ [X]))) 84 := hset
              have hbt : ButOf (· = b) wr (wr.setCell ⟨b, 3 + X, none⟩ (.int .i64 ((cnt M X + 1 : Nat) : Int))) := (ButOf.refl _ _).set _ (.inl rfl)
              have hC2 := hC.but hbt (fun e => hbc e.symm)
              have hL2 := own_but hL hbt (fun j hj e => hbl (by rw [hj, e]))
              have hb2 := hb.setCell (p := ⟨b, 3 + X, none⟩) (by assumption) (.int .i64 ((cnt M X + 1 : Nat) : Int))
              clear hset hbt hB hC hL hb
              rw [Int.natCast_add, show ((1 : Nat) : Int) = 1 from rfl] at hset2 hC2 hL2 hb2
              generalize cnt M X = Y at *
              have hzI : ¬ (X : Int) = 0 := by omega
              have hX16 : (X : Int) < 16 := by omega
              have hX16n : X < 16 := by omega
              go_wp2_with fail
              go_still_tail 10, (by kernel_rfl)
              change wpList _ _ _ _ _ wr.drew
              have hB3 := hset2.below (Below.refl _ _).drew hset2.lt
              have hC3 := hC2.below (Below.refl _ _).drew hC2.lt
              have hL3 := own_below hL2 (Below.refl _ _).drew
              have hb3 := hb2.drew
              clear hset2 hC2 hL2 hb2
              go_wp2_with fail
              go_roundw
              case rel => exact ⟨k + 1, M ++ [X], by omega, by go_num, by simp [hM], htk.out, h15'.out, hB3, hC3, hL3, hb3⟩
              case measure => simp [intOf]; omega
      · obtain rfl : k = n := by omega
        rw [List.take_of_length_le (by omega)] at hT
        subst hT
        have hk2 : M.length ≤ 320 := by omega
        have hL' : Nums wr B lv M := by unfold Nums; rw [hM, ← nv_zv]; exact hL
        rw [← hM] at hB hC
        have hwh := whole_any hB hk2
        have hnum := fun m hW => hnumber_any (w := wr.drewN m) (hB.below (below_drewN (Below.refl _ _) m) hB.lt) (hC.below (below_drewN (Below.refl _ _) m) hC.lt) (hL'.below (below_drewN (Below.refl _ _) m)) hne hk2 (getD_le_of_all h15) hW
        replace hnum := Lib.hid hnum
        cases hw : wholeB M with
        | false =>
          rw [hw] at hwh
          clear hnum
          go_wp2_with fail
          refine hwh.mono ?_
          rintro e w2 ⟨rfl, m, rfl⟩
          go_wp2_with fail
          go_ret2
          exact ⟨below_drewN hb m, .inr ⟨M, rfl, hk2, h15, .inl ⟨hw, rfl⟩⟩⟩
        | true =>
          rw [hw] at hwh
          go_wp2_with fail
          refine hwh.mono ?_
          rintro e w2 ⟨rfl, m, rfl⟩
          go_wp2_with fail
          refine (hnum.out m ((wholeB_iff M).1 hw)).mono ?_
          rintro e w3 ⟨ov, rfl, hB3, hC3, hO3, hbut3⟩
          go_wp2_with fail
          go_ret2
          have hs : (wr.drewN m).heap.size = wr.heap.size := rfl
          have hb3 := below_frame (below_drewN hb m) hbut3 (fun j _ hj => by have := hb.size; rcases hj with e | e | e <;> omega) (by have := hb.size; omega)
          refine ⟨hb3, .inr ⟨M, rfl, hk2, h15, .inr ⟨hw, b, rfl, by assumption, ?_⟩⟩⟩
          have hL3 : Nums w3 B lv M := (hL'.below (below_drewN (Below.refl _ _) m)).but hbut3 (fun j hj e => by
            rcases e with e | e | e
            · exact hbl (by rw [hj, e])
            · exact hne (by rw [hj, e])
            · have := (hL'.lt j hj).2; omega)
          obtain ⟨la, lc, rfl⟩ := hL'.form
          obtain ⟨oa, oc, rfl⟩ := hO3.form
          exact ⟨⟨w.heap.size, la, lc, _, _, oa, oc, hB3, hL3.mono g1, Nums.of_blk hC3 g3 (codesOf_length M) (by omega), hO3.mono (by have := hb.size; omega)⟩, (wholeB_iff M).1 hw, getD_le_of_all h15, hk2⟩
end Go.Proofs.Ytdfoimgckahjpaa
