/-
  The walk of FsmKnown.
-/
import Derived.Test.YtjcigaonadkhkaaFsmL1
namespace Go.Proofs.Ytjcigaonadkhkaa
open Go.RowKit
theorem known_any (w : World) : Calls Try.prog 6 #[] w fun e w' => e = .returned (.bool true) ∧ Below w.heap.size w w' := by
  go_enter Try.func6, Try.ntmps6
  go_wp2_with (go_at_call 13; refine (awake_any _).mono ?_; rintro e w0 ⟨rfl, hb0⟩)
  go_wp2_with fail
  refine (New_yes (n := 2) (t := 3) (by decide) (by decide) (by decide) (by decide) _).mono ?_
  rintro e w1 ⟨rfl, hM1, hb1⟩
  have hB := hb0.size
  generalize w0.heap.size = b at *
  have hb1 : Below w.heap.size w w1 := hb0.trans (hb1.mono (by omega))
  go_wp2_with fail
  refine (New_no (n := 0) (t := 3) (by decide) _).mono ?_
  rintro e w2 ⟨rfl, rfl⟩
  go_wp2_with fail
  refine (do_on hM1 (Ok.new (by decide) (by decide) (by decide) (by decide)) 0 hb1 hB).mono ?_
  rintro e w2 ⟨a, c, rfl, -, -, hM2, hb2⟩
  clear hM1 hb1
  have hok2 : Ok (doM (newM 2 3) 0) := (Ok.new (by decide) (by decide) (by decide) (by decide)).do _
  go_wp2_with fail
  refine (do_on hM2 hok2 2 hb2 hB).mono ?_
  rintro e w3 ⟨a2, c2, rfl, -, -, hM3, hb3⟩
  have hok3 := hok2.do 2
  rw [(start_up 2 3).1] at hM3 hok3
  clear hM2 hb2 hok2
  go_wp2_with fail
  refine (tick_on hM3 hok3 hb3 hB).mono ?_
  rintro e w4 ⟨p3, c3, rfl, -, -, hM4, hb4⟩
  have hok4 : Ok ⟨2, 3, 6, 1, 2⟩ := hok3.tick
  have hM4 : Mac w4 b ⟨2, 3, 6, 1, 2⟩ := hM4
  clear hM3 hb3 hok3
  simp only [show (tickL ⟨2, 3, 6, 1, 3⟩) = [] from rfl, List.length_nil]
  go_wp2_with fail
  refine (tick_on hM4 hok4 hb4 hB).mono ?_
  rintro e w5 ⟨p4, c4, rfl, -, -, hM5, hb5⟩
  have hok5 : Ok ⟨2, 3, 6, 1, 1⟩ := hok4.tick
  have hM5 : Mac w5 b ⟨2, 3, 6, 1, 1⟩ := hM5
  clear hM4 hb4 hok4
  simp only [show (tickL ⟨2, 3, 6, 1, 2⟩) = [] from rfl, List.length_nil]
  go_wp2_with fail
  refine (tick_on hM5 hok5 hb5 hB).mono ?_
  rintro e w6 ⟨p5, c5, rfl, hN2, -, hM6, hb6⟩
  have hok6 : Ok ⟨2, 3, 6, 0, 3⟩ := hok5.tick
  have hM6 : Mac w6 b ⟨2, 3, 6, 0, 3⟩ := hM6
  have hN2 : Nums w6 w5.heap.size (.slice p5 1 c5) [6] := hN2
  have hs2 := hb5.size
  have hl2 := hM5.lt
  clear hM5 hb5 hok5
  simp only [show (tickL ⟨2, 3, 6, 1, 1⟩) = [6] from rfl, List.length_nil, List.length_cons, Nat.zero_add]
  go_wp2_with fail
  refine (tick_on hM6 hok6 hb6 hB).mono ?_
  rintro e w7 ⟨p6, c6, rfl, -, hg6, hM7, hb7⟩
  have hok7 : Ok ⟨2, 3, 6, 0, 2⟩ := hok6.tick
  have hM7 : Mac w7 b ⟨2, 3, 6, 0, 2⟩ := hM7
  have hN2 := hN2.grown hg6 hl2
  clear hM6 hb6 hok6
  simp only [show (tickL ⟨2, 3, 6, 0, 3⟩) = [] from rfl, List.length_nil]
  go_wp2_with fail
  refine (tick_on hM7 hok7 hb7 hB).mono ?_
  rintro e w8 ⟨p7, c7, rfl, -, hg7, hM8, hb8⟩
  have hok8 : Ok ⟨2, 3, 6, 0, 1⟩ := hok7.tick
  have hM8 : Mac w8 b ⟨2, 3, 6, 0, 1⟩ := hM8
  have hN2 := hN2.grown hg7 hl2
  clear hM7 hb7 hok7
  simp only [show (tickL ⟨2, 3, 6, 0, 2⟩) = [] from rfl, List.length_nil]
  go_wp2_with fail
  refine (tick_on hM8 hok8 hb8 hB).mono ?_
  rintro e w9 ⟨p8, c8, rfl, hN5, hg8, hM9, hb9⟩
  have hok9 : Ok ⟨2, 3, 3, 0, 0⟩ := hok8.tick
  have hM9 : Mac w9 b ⟨2, 3, 3, 0, 0⟩ := hM9
  have hN5 : Nums w9 w8.heap.size (.slice p8 1 c8) [3] := hN5
  have hs5 := hb8.size
  have hl5 := hM8.lt
  have hN2 := hN2.grown hg8 hl2
  clear hM8 hb8 hok8
  simp only [show (tickL ⟨2, 3, 6, 0, 1⟩) = [3] from rfl, List.length_nil, List.length_cons, Nat.zero_add]
  go_wp2_with fail
  refine (tick_on hM9 hok9 hb9 hB).mono ?_
  rintro e w10 ⟨p9, c9, rfl, -, hg9, hM10, hb10⟩
  have hok10 : Ok ⟨2, 3, 3, 0, 0⟩ := hok9.tick
  have hM10 : Mac w10 b ⟨2, 3, 3, 0, 0⟩ := hM10
  have hN2 := hN2.grown hg9 hl2
  have hN5 := hN5.grown hg9 hl5
  clear hM9 hb9 hok9
  simp only [show (tickL ⟨2, 3, 3, 0, 0⟩) = [] from rfl, List.length_nil]
  go_wp2_with fail
  refine (ints_same (hN2.below (below_alloc (Below.refl _ _) _ (Nat.le_refl _))) (Nums.new w10 [6] (by decide)) rfl).mono ?_
  rintro e w11 ⟨rfl, n1, rfl⟩
  have hq1 := below_drewN (below_alloc (Below.refl w10.heap.size w10) (.cells ([6].map iv).toArray 3) (Nat.le_refl _)) n1
  have hM11 := hM10.below hq1 hM10.lt
  have hN11 := hN5.below hq1
  have hb11 := hb10.trans (hq1.mono hb10.size)
  clear hq1 hM10 hN5 hb10 hN2
  generalize (w10.alloc (.cells ([6].map iv).toArray 3)).drewN n1 = w12 at *
  go_wp2_with fail
  refine (ints_same (hN11.below (below_alloc (Below.refl _ _) _ (Nat.le_refl _))) (Nums.new w12 [3] (by decide)) rfl).mono ?_
  rintro e w13 ⟨rfl, n2, rfl⟩
  have hq2 := below_drewN (below_alloc (Below.refl w12.heap.size w12) (.cells ([3].map iv).toArray 3) (Nat.le_refl _)) n2
  have hM13 := hM11.below hq2 hM11.lt
  have hb13 := hb11.trans (hq2.mono hb11.size)
  clear hq2 hM11 hN11 hb11
  generalize (w12.alloc (.cells ([3].map iv).toArray 3)).drewN n2 = w14 at *
  have hst := State_any hM13
  have hru := Running_any hM13
  go_wp2_with (first | (go_at_call 20; refine hst.mono ?_; rintro x w4 ⟨rfl, rfl⟩) | (go_at_call 22; refine hru.mono ?_; rintro x w4 ⟨rfl, rfl⟩))
  go_ret
  exact ⟨rfl, hb13⟩
end Go.Proofs.Ytjcigaonadkhkaa
