/-
  The walks of the reference's automaton: an event.
-/
import Derived.Test.YtjcigaonadkhkaaFsmMach
namespace Go.Proofs.Ytjcigaonadkhkaa
open Go.RowKit
def rCells (m : M) : Array Value := #[iv m.state, iv m.count, iv m.left, iv m.tries, iv m.timeout]
def RMac (w : World) (b : Nat) (m : M) : Prop := Blk w b (rCells m) 45
theorem rmac_ask {w : World} {b : Nat} {m : M} (h : RMac w b m) {x : Int} (hx : x = ((m.count - 1 : Nat) : Int)) :
    RMac ((w.setCell ⟨b, 1, none⟩ (.int .i64 x)).setCell ⟨b, 2, none⟩ (.int .i64 (m.timeout : Int))) b { m with count := m.count - 1, left := m.timeout } := by
  subst hx
  exact (h.set 1 _).set 2 _
theorem act4 (m : M) : actM m 4 = { m with count := m.tries } := rfl
theorem act5 (m : M) : actM m 5 = { m with count := 0, left := m.timeout } := rfl
theorem act6 (m : M) : actM m 6 = { m with count := m.count - 1, left := m.timeout } := rfl
theorem act9 (m : M) : actM m 9 = { m with count := m.count - 1, left := m.timeout } := rfl
theorem act_no (m : M) {a : Nat} (h4 : a ≠ 4) (h5 : a ≠ 5) (h6 : a ≠ 6) (h9 : a ≠ 9) : actM m a = m := by
  unfold actM; rw [if_neg h4, if_neg (by omega), if_neg h5]
set_option maxHeartbeats 2000000 in
theorem rstep_any {w : World} {b : Nat} {m : M} (hM : RMac w b m) (hs : m.state ≤ 9) (hc : m.count ≤ m.tries) (ht : m.tries ≤ 1000) (e : Int) :
    Calls Try.prog 33 #[.pointer (some ⟨b, 0, none⟩), .int .i64 e] w fun x w' => Said w b (actsI m.state e) x w' ∧ RMac w' b (doesM m e) := by
  have hS := RStep_any m.state e w
  obtain ⟨n0, n9⟩ := next_le hs e
  have hfix := fun j => fold_fix ((actsI m.state e).take j) { m with state := (nextI m.state e).toNat }
  have hd : doesM m e = rest ((actsI m.state e).foldl actM { m with state := (nextI m.state e).toNat }) := rfl
  rw [hd]
  clear hd
  obtain ⟨n, hn⟩ := Int.eq_ofNat_of_zero_le n0
  rw [hn] at hS hfix n9 ⊢
  clear hn n0
  simp only [Int.toNat_natCast] at hfix ⊢
  generalize actsI m.state e = l at *
  obtain ⟨m1, hm1⟩ : ∃ m1 : M, m1 = { m with state := n } := ⟨_, rfl⟩
  have e1 : m1.tries = m.tries := by rw [hm1]
  have e2 : m1.count = m.count := by rw [hm1]
  have e3 : m1.state = n := by rw [hm1]
  rw [← hm1]
  have hfix' := Lib.hid (fun j => fold_fix (l.take j) m1)
  clear hfix
  have hm1' := Lib.hid hm1
  clear hm1
  have hlt := hM.lt
  have c2 := hM.cell 0
  simp only [rCells, iv, List.getElem?_toArray, List.getElem?_cons_zero] at c2
  go_enter Try.func33, Try.ntmps33
  go_wp2_with (go_at_call 15; refine hS.mono ?_; rintro x w1 ⟨a, c, rfl, hN, hb⟩; have hM1 : RMac w1 b m := hM.below hb hlt; have d2 := hM1.cell 0; have g2 := hM1.free 0 none; simp only [rCells, iv, List.getElem?_toArray, List.getElem?_cons_zero] at d2)
  have hM2 : RMac (w1.setCell ⟨b, 0, none⟩ (.int .i64 (n : Int))) b { m with state := n } := hM1.set 0 _
  have hN2 := hN.grown (grown_set (w := w1) (b := b) (o := 0) (v := .int .i64 (n : Int))) hlt
  have hg2 := grown_trans (grown_below hb (some b)) (grown_set (w := w1) (b := b) (o := 0) (v := .int .i64 (n : Int)))
  have hmax := hN.max
  clear hN hM1 hb c2 d2 g2 hS
  generalize w1.setCell ⟨b, 0, none⟩ (.int .i64 (n : Int)) = w2 at *
  rw [← hm1'.out] at hM2
  go_loopw [7] (fun i wr => ∃ j : Nat, j ≤ l.length ∧ i = .int .i64 j ∧ RMac wr b ((l.take j).foldl actM m1) ∧ Nums wr w.heap.size (.slice a l.length c) l ∧ w.grownBy wr (some b)) (fun i _ => l.length - (intOf i).toNat)
  case atStart => exact ⟨0, by omega, rfl, hM2, hN2, hg2⟩
  case round =>
    clear hM2 hN2 hg2
    obtain ⟨j, hj, rfl, hM2, hN2, hg2⟩ := hrel
    by_cases hjl : j < l.length
    · obtain ⟨r, rfl, g1⟩ := hN2.cell hjl
      have hsn : l.take (j + 1) = l.take j ++ [l[j]] := by rw [List.take_succ_eq_append_getElem hjl]
      have hsn' := Lib.hid hsn
      clear hsn
      generalize l[j] = X at *
      have hfold : (l.take (j + 1)).foldl actM m1 = actM ((l.take j).foldl actM m1) X := by rw [hsn'.out, List.foldl_append]; rfl
      have hcb : ((l.take j).foldl actM m1).count ≤ 1000 := by
        have := (hfix'.out j).2.2.2.1; omega
      generalize (l.take j).foldl actM m1 = mj at *
      have hfold' := Lib.hid hfold
      clear hfold hsn'
      have c0 := hM2.cell 0
      have c1 := hM2.cell 1
      have c2 := hM2.cell 2
      have c3 := hM2.cell 3
      have c4 := hM2.cell 4
      have f1 := hM2.free 1 none
      have f2 := hM2.free 2 none
      simp only [rCells, iv, List.getElem?_toArray, List.getElem?_cons_zero, List.getElem?_cons_succ] at c0 c1 c2 c3 c4
      have s3 := fun v => (hM2.set 1 v).cell 3
      have s4 := fun v => (hM2.set 1 v).cell 4
      have sf := fun v => (hM2.set 1 v).free 2 none
      simp only [rCells, iv, List.setIfInBounds_toArray, List.set_cons_succ, List.set_cons_zero, List.getElem?_toArray, List.getElem?_cons_zero, List.getElem?_cons_succ] at s3 s4
      have hw := IntWalk.wrap64_in ((mj.count : Int) - 1) (by omega)
      by_cases h4 : X = 4
      · subst h4
        have hA : RMac (wr.setCell ⟨b, 1, none⟩ (.int .i64 (mj.tries : Int))) b (actM mj 4) := by rw [act4]; exact hM2.set 1 _
        go_wp2
        go_roundw
        case rel => exact ⟨j + 1, by omega, by go_num, by rw [hfold'.out]; exact hA, hN2.grown grown_set hlt, grown_trans hg2 grown_set⟩
        case measure => simp [intOf]; omega
      · by_cases h5 : X = 5
        · subst h5
          have hA : RMac ((wr.setCell ⟨b, 1, none⟩ (.int .i64 0)).setCell ⟨b, 2, none⟩ (.int .i64 (mj.timeout : Int))) b (actM mj 5) := by rw [act5]; exact (hM2.set 1 _).set 2 _
          go_wp2
          go_roundw
          case rel => exact ⟨j + 1, by omega, by go_num, by rw [hfold'.out]; exact hA, (hN2.grown grown_set hlt).grown grown_set hlt, grown_trans hg2 (grown_trans grown_set grown_set)⟩
          case measure => simp [intOf]; omega
        · by_cases h6 : X = 6
          · subst h6
            have hA := fun x hx => act6 mj ▸ rmac_ask (x := x) hM2 hx
            go_wp2
            go_roundw
            case rel => exact ⟨j + 1, by omega, by go_num, by rw [hfold'.out]; exact hA _ (by omega), (hN2.grown grown_set hlt).grown grown_set hlt, grown_trans hg2 (grown_trans grown_set grown_set)⟩
            case measure => simp [intOf]; omega
          · by_cases h9 : X = 9
            · subst h9
              have hA := fun x hx => act9 mj ▸ rmac_ask (x := x) hM2 hx
              go_wp2
              go_roundw
              case rel => exact ⟨j + 1, by omega, by go_num, by rw [hfold'.out]; exact hA _ (by omega), (hN2.grown grown_set hlt).grown grown_set hlt, grown_trans hg2 (grown_trans grown_set grown_set)⟩
              case measure => simp [intOf]; omega
            · have hA := act_no mj h4 h5 h6 h9
              have hA' := Lib.hid hA
              clear hA
              go_wp2
              go_roundw
              case rel => exact ⟨j + 1, by omega, by go_num, by rw [hfold'.out, hA'.out]; exact hM2, hN2, hg2⟩
              case measure => simp [intOf]; omega
    · obtain rfl : j = l.length := by omega
      rw [List.take_of_length_le (Nat.le_refl _)] at hM2
      obtain ⟨q1, q2, q3, q4, q5⟩ := hfix'.out l.length
      rw [List.take_of_length_le (Nat.le_refl _)] at q1 q2 q3 q4 q5
      obtain ⟨m2, hm2⟩ : ∃ m2, l.foldl actM m1 = m2 := ⟨_, rfl⟩
      rw [hm2] at hM2 q3
      clear q1 q2 q4 q5
      have hm2' := Lib.hid hm2
      clear hm2
      have q3' : m2.state = n := by omega
      have d2 := hM2.cell 0
      have d4 := hM2.cell 2
      have f4 := hM2.free 2 none
      simp only [rCells, iv, List.getElem?_toArray, List.getElem?_cons_zero, List.getElem?_cons_succ] at d2 d4
      by_cases hw : 4 ≤ n ∧ n ≤ 8
      · have hR : rest m2 = m2 := by unfold rest; rw [if_pos (by rw [q3']; exact hw)]
        have hR' := Lib.hid hR
        clear hR
        obtain ⟨w4, w8⟩ := hw
        have k1 : ¬ ((n : Int) < 4) := by omega
        have k2 : ((n : Int) == 9) = false := by simp; omega
        go_wp2
        go_ret
        exact ⟨⟨a, c, rfl, hN2, hg2⟩, by rw [hm2'.out, hR'.out]; exact hM2⟩
      · have hR : rest m2 = { m2 with left := 0 } := by unfold rest; rw [if_neg (by rw [q3']; exact hw)]
        have hR' := Lib.hid hR
        clear hR
        have hA : RMac (wr.setCell ⟨b, 2, none⟩ (.int .i64 0)) b (rest m2) := by rw [hR'.out]; exact hM2.set 2 _
        by_cases h4 : n < 4
        · clear hw
          go_wp2
          go_ret
          exact ⟨⟨a, c, rfl, hN2.grown grown_set hlt, grown_trans hg2 grown_set⟩, by rw [hm2'.out]; exact hA⟩
        · obtain rfl : n = 9 := by omega
          clear hw
          go_wp2
          go_ret
          exact ⟨⟨a, c, rfl, hN2.grown grown_set hlt, grown_trans hg2 grown_set⟩, by rw [hm2'.out]; exact hA⟩
end Go.Proofs.Ytjcigaonadkhkaa
