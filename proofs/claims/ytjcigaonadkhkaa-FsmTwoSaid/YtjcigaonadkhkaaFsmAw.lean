/-
  The walks of the law's awake, of FsmKnown, FsmSteps and FsmTables.
-/
import Derived.Test.YtjcigaonadkhkaaFsmDo
namespace Go.Proofs.Ytjcigaonadkhkaa
open Go.RowKit
theorem below_said {w0 w w' : World} {b : Nat} {l : List Nat} {e : Ending} (h : Below w0.heap.size w0 w) (hs : Said w b l e w') (hb : w0.heap.size ≤ b) : Below w0.heap.size w0 w' := by
  obtain ⟨a, c, rfl, hN, hg⟩ := hs
  exact below_grow h hg h.size hb
/-- a call of Do, from whatever came ahead -/
theorem do_on {w0 w : World} {b : Nat} {m : M} (hM : Mac w b m) (h : Ok m) (e : Int) (hb : Below w0.heap.size w0 w) (hB : w0.heap.size ≤ b) :
    Calls Try.prog 19 #[.pointer (some ⟨b, 0, none⟩), .int .i64 e] w fun x w' =>
      ∃ a c, x = .returned (.slice a (doL m e).length c) ∧ Nums w' w.heap.size (.slice a (doL m e).length c) (doL m e) ∧ w.grownBy w' (some b) ∧ Mac w' b (doM m e) ∧ Below w0.heap.size w0 w' := by
  refine (Do_any hM h e).mono ?_
  rintro x w' ⟨⟨a, c, rfl, hN, hg⟩, hM1⟩
  exact ⟨a, c, rfl, hN, hg, hM1, below_grow hb hg hb.size hB⟩
theorem tick_on {w0 w : World} {b : Nat} {m : M} (hM : Mac w b m) (h : Ok m) (hb : Below w0.heap.size w0 w) (hB : w0.heap.size ≤ b) :
    Calls Try.prog 21 #[.pointer (some ⟨b, 0, none⟩)] w fun x w' =>
      ∃ a c, x = .returned (.slice a (tickL m).length c) ∧ Nums w' w.heap.size (.slice a (tickL m).length c) (tickL m) ∧ w.grownBy w' (some b) ∧ Mac w' b (tickM m) ∧ Below w0.heap.size w0 w' := by
  refine (Tick_any hM h).mono ?_
  rintro x w' ⟨⟨a, c, rfl, hN, hg⟩, hM1⟩
  exact ⟨a, c, rfl, hN, hg, hM1, below_grow hb hg hb.size hB⟩
theorem awake_any (w : World) : Calls Try.prog 13 #[] w fun e w' => e = .returned (.bool true) ∧ Below w.heap.size w w' := by
  go_enter Try.func13, Try.ntmps13
  go_wp2_with fail
  refine (New_yes (n := 2) (t := 3) (by decide) (by decide) (by decide) (by decide) _).mono ?_
  rintro e w1 ⟨rfl, hM1, hb1⟩
  go_wp2_with fail
  refine (do_on hM1 (Ok.new (by decide) (by decide) (by decide) (by decide)) 0 hb1 (Nat.le_refl _)).mono ?_
  rintro e w2 ⟨a, c, rfl, hN2, hg2, hM2, hb2⟩
  have hok2 : Ok (doM (newM 2 3) 0) := (Ok.new (by decide) (by decide) (by decide) (by decide)).do _
  clear hM1 hb1 hN2 hg2
  go_wp2_with fail
  refine (do_on hM2 hok2 2 hb2 (Nat.le_refl _)).mono ?_
  rintro e w3 ⟨a2, c2, rfl, hN3, hg3, hM3, hb3⟩
  rw [(start_up 2 3).1] at hM3
  rw [(start_up 2 3).2] at hN3
  rw [(start_up 2 3).2]
  clear hM2 hb2 hok2
  obtain ⟨r, rfl, g1⟩ := hN3.cell (j := 1) (by decide)
  have g1 : w3.cell? ⟨r, 1, none⟩ = some (.int .i64 6) := g1
  have hst := State_any hM3
  have hco := Count_any hM3
  have hru := Running_any hM3
  go_wp2_with (first | (go_at_call 20; refine hst.mono ?_; rintro x w4 ⟨rfl, rfl⟩) | (go_at_call 26; refine hco.mono ?_; rintro x w4 ⟨rfl, rfl⟩) | (go_at_call 22; refine hru.mono ?_; rintro x w4 ⟨rfl, rfl⟩))
  go_ret
  exact ⟨rfl, hb3⟩
end Go.Proofs.Ytjcigaonadkhkaa
