/-
  The walks of the program's automaton.
-/
import Derived.Test.YtjcigaonadkhkaaFsmM
namespace Go.Proofs.Ytjcigaonadkhkaa
open Go.RowKit
/-- the cells of the program's automaton -/
def mCells (m : M) : Array Value := #[iv m.tries, iv m.timeout, iv m.state, iv m.count, iv m.left]
def Mac (w : World) (b : Nat) (m : M) : Prop := Blk w b (mCells m) 57
theorem mac_ask {w : World} {b : Nat} {m : M} (h : Mac w b m) {x : Int} (hx : x = ((m.count - 1 : Nat) : Int)) :
    Mac ((w.setCell ⟨b, 3, none⟩ (.int .i64 x)).setCell ⟨b, 4, none⟩ (.int .i64 (m.timeout : Int))) b { m with count := m.count - 1, left := m.timeout } := by
  subst hx
  exact (h.set 3 _).set 4 _
set_option maxHeartbeats 400000 in
theorem act_any {w : World} {b : Nat} {m : M} (hM : Mac w b m) (ht : m.count ≤ 1000) (a : Nat) :
    Calls Try.prog 46 #[.pointer (some ⟨b, 0, none⟩), .int .i64 a] w fun e w' => e = .returned (.tuple #[]) ∧ Mac w' b (actM m a) ∧ w.grownBy w' (some b) := by
  have c0 := hM.cell 0
  have c1 := hM.cell 1
  have c2 := hM.cell 2
  have c3 := hM.cell 3
  have c4 := hM.cell 4
  have f3 := hM.free 3 none
  have f4 := hM.free 4 none
  simp only [mCells, iv, List.getElem?_toArray, List.getElem?_cons_zero, List.getElem?_cons_succ] at c0 c1 c2 c3 c4
  have s1 := fun v => (hM.set 3 v).cell 1
  have s4 := fun v => (hM.set 3 v).cell 4
  have sf := fun v => (hM.set 3 v).free 4 none
  simp only [mCells, iv, List.setIfInBounds_toArray, List.set_cons_succ, List.set_cons_zero, List.getElem?_toArray, List.getElem?_cons_zero, List.getElem?_cons_succ] at s1 s4
  have hw := IntWalk.wrap64_in ((m.count : Int) - 1) (by omega)
  go_enter Try.func46, Try.ntmps46
  by_cases h4 : a = 4
  · subst h4
    go_wp2
    go_end0
    exact ⟨rfl, hM.set 3 _, grown_set⟩
  · by_cases h6 : a = 6
    · subst h6
      go_wp2
      all_goals go_end0
      all_goals exact ⟨rfl, mac_ask hM (by omega), grown_trans grown_set grown_set⟩
    · by_cases h9 : a = 9
      · subst h9
        go_wp2
        all_goals go_end0
        all_goals exact ⟨rfl, mac_ask hM (by omega), grown_trans grown_set grown_set⟩
      · by_cases h5 : a = 5
        · subst h5
          go_wp2
          go_end0
          exact ⟨rfl, (hM.set 3 _).set 4 _, grown_trans grown_set grown_set⟩
        · go_wp2
          go_end0
          refine ⟨rfl, ?_, grown_refl _ _⟩
          unfold actM
          rw [if_neg h4, if_neg (by omega), if_neg h5]
          exact hM
theorem Nums.grown {w w' : World} {B b : Nat} {v : Value} {l : List Nat} (h : Nums w B v l) (hg : w.grownBy w' (some b)) (hb : b < B) : Nums w' B v l := own_grown h hg hb
/-- what an event is answered with, by either automaton -/
def Said (w : World) (b : Nat) (l : List Nat) (e : Ending) (w' : World) : Prop :=
  ∃ a c, e = .returned (.slice a l.length c) ∧ Nums w' w.heap.size (.slice a l.length c) l ∧ w.grownBy w' (some b)
set_option maxHeartbeats 1000000 in
theorem does_any {w : World} {b : Nat} {m : M} (hM : Mac w b m) (hs : m.state ≤ 9) (hc : m.count ≤ m.tries) (ht : m.tries ≤ 1000) (e : Int) :
    Calls Try.prog 31 #[.pointer (some ⟨b, 0, none⟩), .int .i64 e] w fun x w' => Said w b (actsI m.state e) x w' ∧ Mac w' b (doesM m e) := by
  have hS := Step_any m.state e w
  obtain ⟨n0, n9⟩ := next_le hs e
  have hfix := fun j => fold_fix ((actsI m.state e).take j) { m with state := (nextI m.state e).toNat }
  have hd : doesM m e = rest ((actsI m.state e).foldl actM { m with state := (nextI m.state e).toNat }) := rfl
  rw [hd]
  clear hd
  obtain ⟨n, hn⟩ := Int.eq_ofNat_of_zero_le n0
  rw [hn] at hS hfix n9 ⊢
  clear hn n0
  simp only [Int.toNat_natCast] at hfix ⊢
  generalize actsI m.state e = l at *
  obtain ⟨m1, hm1⟩ : ∃ m1 : M, m1 = { m with state := n } := ⟨_, rfl⟩
  have e1 : m1.tries = m.tries := by rw [hm1]
  have e2 : m1.count = m.count := by rw [hm1]
  have e3 : m1.state = n := by rw [hm1]
  rw [← hm1]
  have hfix' := Lib.hid (fun j => fold_fix (l.take j) m1)
  clear hfix
  have hm1' := Lib.hid hm1
  clear hm1
  have hlt := hM.lt
  have c2 := hM.cell 2
  simp only [mCells, iv, List.getElem?_toArray, List.getElem?_cons_zero, List.getElem?_cons_succ] at c2
  go_enter Try.func31, Try.ntmps31
  go_wp2_with (go_at_call 14; refine hS.mono ?_; rintro x w1 ⟨a, c, rfl, hN, hb⟩; have hM1 : Mac w1 b m := hM.below hb hlt; have d2 := hM1.cell 2; have g2 := hM1.free 2 none; simp only [mCells, iv, List.getElem?_toArray, List.getElem?_cons_zero, List.getElem?_cons_succ] at d2)
  have hM2 : Mac (w1.setCell ⟨b, 2, none⟩ (.int .i64 (n : Int))) b { m with state := n } := hM1.set 2 _
  have hN2 := hN.grown (grown_set (w := w1) (b := b) (o := 2) (v := .int .i64 (n : Int))) hlt
  have hg2 := grown_trans (grown_below hb (some b)) (grown_set (w := w1) (b := b) (o := 2) (v := .int .i64 (n : Int)))
  have hmax := hN.max
  clear hN hM1 hb c2 d2 g2 hS
  generalize w1.setCell ⟨b, 2, none⟩ (.int .i64 (n : Int)) = w2 at *
  rw [← hm1'.out] at hM2
  go_loopw [8, 24] (fun _ i wr => ∃ j : Nat, j ≤ l.length ∧ i = .int .i64 j ∧ Mac wr b ((l.take j).foldl actM m1) ∧ Nums wr w.heap.size (.slice a l.length c) l ∧ w.grownBy wr (some b)) (fun _ i _ => l.length - (intOf i).toNat)
  case atStart => exact ⟨0, by omega, rfl, hM2, hN2, hg2⟩
  case round =>
    clear hM2 hN2 hg2
    obtain ⟨j, hj, rfl, hM2, hN2, hg2⟩ := hrel
    by_cases hjl : j < l.length
    · obtain ⟨r, rfl, g1⟩ := hN2.cell hjl
      have hsn : l.take (j + 1) = l.take j ++ [l[j]] := by rw [List.take_succ_eq_append_getElem hjl]
      have hsn' := Lib.hid hsn
      clear hsn
      generalize l[j] = X at *
      have hcb : ((l.take j).foldl actM m1).count ≤ 1000 := by
        have := (hfix'.out j).2.2.2.1; omega
      go_wp2_with (go_at_call 46; refine (act_any hM2 hcb _).mono ?_; rintro x w3 ⟨rfl, hM3, hg3⟩)
      have hg3' := grown_trans hg2 hg3
      have hN3 := hN2.grown hg3 hlt
      go_roundw
      case rel => exact ⟨j + 1, by omega, by go_num, by rw [hsn'.out, List.foldl_append]; exact hM3, hN3, hg3'⟩
      case measure => simp [intOf]; omega
    · obtain rfl : j = l.length := by omega
      rw [List.take_of_length_le (Nat.le_refl _)] at hM2
      obtain ⟨q1, q2, q3, q4, q5⟩ := hfix'.out l.length
      rw [List.take_of_length_le (Nat.le_refl _)] at q1 q2 q3 q4 q5
      obtain ⟨m2, hm2⟩ : ∃ m2, l.foldl actM m1 = m2 := ⟨_, rfl⟩
      rw [hm2] at hM2 q3
      clear q1 q2 q4 q5
      have hm2' := Lib.hid hm2
      clear hm2
      have q3' : m2.state = n := by omega
      have d2 := hM2.cell 2
      have d4 := hM2.cell 4
      have f4 := hM2.free 4 none
      simp only [mCells, iv, List.getElem?_toArray, List.getElem?_cons_zero, List.getElem?_cons_succ] at d2 d4
      by_cases hw : 4 ≤ n ∧ n ≤ 8
      · have hR : rest m2 = m2 := by unfold rest; rw [if_pos (by rw [q3']; exact hw)]
        have hR' := Lib.hid hR
        clear hR
        obtain ⟨w4, w8⟩ := hw
        go_wp2_with (go_at_call 32; refine (waits_any _ _).mono ?_; rintro x w3 ⟨rfl, rfl⟩)
        go_ret
        exact ⟨⟨a, c, rfl, hN2, hg2⟩, by rw [hm2'.out, hR'.out]; exact hM2⟩
      · have hR : rest m2 = { m2 with left := 0 } := by unfold rest; rw [if_neg (by rw [q3']; exact hw)]
        have hR' := Lib.hid hR
        clear hR
        have hd : decide (4 ≤ n ∧ n ≤ 8) = false := by simp only [decide_eq_false_iff_not]; exact hw
        clear hw
        have hwt := fun W => waits_any n W
        simp only [hd] at hwt
        clear hd
        go_wp2_with (go_at_call 32; refine (hwt _).mono ?_; rintro x w3 ⟨rfl, rfl⟩)
        go_ret
        exact ⟨⟨a, c, rfl, hN2.grown grown_set hlt, grown_trans hg2 grown_set⟩, by rw [hm2'.out, hR'.out]; exact hM2.set 4 _⟩
end Go.Proofs.Ytjcigaonadkhkaa
