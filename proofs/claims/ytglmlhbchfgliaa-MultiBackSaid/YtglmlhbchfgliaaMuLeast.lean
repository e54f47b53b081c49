/-
  The least one that is held: plainly, and the program's walk. No conditions.
-/
import Derived.Test.YtglmlhbchfgliaaMuPass
namespace Go.Proofs.Ytglmlhbchfgliaa
open Go.RowKit Go.Maps
/-- how far the least one that is held is ahead of the next one -/
def leastL (R next : Nat) : List Nat → Int
  | [] => (R : Int)
  | m :: l => if leastL R next l < aheadI R next m then leastL R next l else aheadI R next m
theorem leastL_le (R next : Nat) : ∀ l, leastL R next l ≤ (R : Int) ∧ ∀ m ∈ l, leastL R next l ≤ aheadI R next m
  | [] => ⟨Int.le_refl _, fun m hm => by cases hm⟩
  | k :: l => by
    obtain ⟨h1, h2⟩ := leastL_le R next l
    unfold leastL
    split
    · exact ⟨h1, fun m hm => by
        rcases List.mem_cons.1 hm with e | e
        · subst e; omega
        · exact h2 m e⟩
    · exact ⟨by omega, fun m hm => by
        rcases List.mem_cons.1 hm with e | e
        · subst e; omega
        · have := h2 m e; omega⟩
theorem leastL_mem (R next : Nat) : ∀ l, leastL R next l = (R : Int) ∨ ∃ m ∈ l, leastL R next l = aheadI R next m
  | [] => Or.inl rfl
  | k :: l => by
    unfold leastL
    split
    · rcases leastL_mem R next l with e | ⟨m, hm, e⟩
      · exact Or.inl e
      · exact Or.inr ⟨m, List.mem_cons_of_mem _ hm, e⟩
    · exact Or.inr ⟨k, List.mem_cons_self, rfl⟩
def leastP (s : JS) : Int := leastL (rgN s.short) s.next (s.held.map (·.1))
theorem run_min2I {P : Program} (w : World) (ts : Array TypeId) (t : TypeId) (x y : Int) :
    (Builtin.min_ ts t #[.int .i64 x, .int .i64 y]).run P w = .ok (.int .i64 (if y < x then y else x)) w := by
  simp only [Builtin.min_, List.foldlM, Builtin.min2, pure_bind]
  rfl
set_option maxRecDepth 100000 in
set_option maxHeartbeats 2000000 in
theorem least_any {w : World} {B b bm : Nat} {vl : Value} {s : JS} (h : Jo w B b bm vl s) :
    Calls Try.prog 42 #[.pointer (some ⟨b, 0, none⟩)] w fun e w' => e = .returned (.int .i64 (leastP s)) ∧ Below w.heap.size w w' := by
  have g2 := h.c2
  have g3 := h.c3
  have g4 := h.c4
  have hR := rgN_two s.short
  have hRp := rgN_pos s.short
  go_enter Try.func42, Try.ntmps42
  go_wp2_with (first | (go_at_call 29; refine (from_any _ g2).mono ?_; rintro e w1 ⟨rfl, hF, hb⟩; have h1 := h.below hb; have g4' := h1.c4; have g2' := h1.c2; obtain ⟨D, hv, m1, m2, m3⟩ := h1.map; simp only [fromV]) | (go_at_call 27; refine (ring_any _ _).mono ?_; rintro e w' ⟨rfl, rfl⟩) | (at_range; refine wpList_range_own _ rfl _ 69 rfl 3 75 lawInt Try.underlying69 _ bm _ D rfl m1 ?_; intro w2 hrg hg2 hs2))
  have hb2 : Below w1.heap.size w1 w2 := below_of_none hg2
  have hF2 := hF.below hb2
  have hsw := hb.size
  have hbw : Below w.heap.size w w2 := hb.trans (hb2.mono hsw)
  have hkeys := m3.keys
  have hkey : ∀ p ∈ hv, p.1 < rgN s.short := fun p hp => by
    obtain ⟨q, hq, e⟩ := List.mem_map.1 (show p.1 ∈ s.held.map (·.1) from hkeys ▸ List.mem_map.2 ⟨p, hp, rfl⟩)
    rw [← e]; exact h.num q hq
  have hall : ∀ p ∈ hv, Maps.has D (nk p.1) = true := fun p hp => by
    rw [m2.has, List.any_eq_true]; exact ⟨p, hp, by simp⟩
  have hr0 : w.heap.size + 1 < w1.heap.size := World.block_lt_of_cell? _ _ hF.ring
  have nb2 : bm < w.heap.size := h.mlt
  go_frame
  go_loopw [4, 5, 22, 23, 24, 25, 26, 27, 28, 29, 30] (fun vb _ _ _ _ _ _ _ _ _ _ wr => ∃ (left : Lit → Bool) (cnt : Nat) (v : Int), vb = .int .i64 v ∧ wr.ranges Try.prog 3 asIs bm w1.heap.size s.held.length D left cnt ∧ ButOf (fun k => k = w1.heap.size) w2 wr ∧
    v ≤ (rgN s.short : Int) ∧ (∀ p ∈ hv, left (nk p.1) = false → v ≤ aheadI (rgN s.short) s.next p.1) ∧ (v = (rgN s.short : Int) ∨ ∃ p ∈ hv, v = aheadI (rgN s.short) s.next p.1)) (fun _ _ _ _ _ _ _ _ _ _ _ wr => wr.rangeLeft bm w1.heap.size)
  case atStart =>
    exact ⟨_, _, _, rfl, hrg, ButOf.refl _ _, Int.le_refl _, (fun p hp hl => by rw [hall p hp] at hl; cases hl), Or.inl rfl⟩
  case round =>
    obtain ⟨left, cnt, v, rfl, hrg', hbt, hv1, hv2, hv3⟩ := hrel
    have fr : ∀ {w' : World}, ButOf (fun k => k = w1.heap.size) w2 w' → From w' w.heap.size (w.heap.size + 1) (rgN s.short) s.next := fun hx =>
      ⟨(hx.cell (p := ⟨w.heap.size, 0, none⟩) (by show w.heap.size < _; omega) (by show ¬ (w.heap.size = _); omega)).trans hF2.base, (hx.cell (p := ⟨w.heap.size + 1, 0, none⟩) (by show w.heap.size + 1 < _; omega) (by show ¬ (w.heap.size + 1 = _); omega)).trans hF2.ring⟩
    go_wp2_with (at_next; refine wpList_next_ranges _ rfl _ rfl 3 lawInt asIs (Value.int .i64) id invK invV bm w1.heap.size s.held.length D left cnt (by rfl) hrg' ?done ?more)
    case done =>
      intro hc0 hl0
      go_wp2_with fail
      go_ret
      have hK := hkeys
      have e : v = leastP s := by
        unfold leastP
        rw [← hK]
        obtain ⟨q1, q2⟩ := leastL_le (rgN s.short) s.next (hv.map (·.1))
        have a1 : leastL (rgN s.short) s.next (hv.map (·.1)) ≤ v := by
          rcases hv3 with e | ⟨p, hp, e⟩
          · omega
          · rw [e]; exact q2 _ (List.mem_map.2 ⟨p, hp, rfl⟩)
        have a2 : v ≤ leastL (rgN s.short) s.next (hv.map (·.1)) := by
          rcases leastL_mem (rgN s.short) s.next (hv.map (·.1)) with e | ⟨m, hm, e⟩
          · omega
          · obtain ⟨p, hp, rfl⟩ := List.mem_map.1 hm
            rw [e]; exact hv2 p hp (hl0 _)
        omega
      exact ⟨ret_int e, hbw.trans (hbt.below (fun k hk => by omega) (by omega))⟩
    case more =>
      intro x c kl y ps w3 cnt3 hkx hlk hvy hat hrg3 hlt3 hg3 hs3 hen
      obtain ⟨x', ex, rfl, hwf⟩ := Maps.keyOf_int_inv Try.underlying3 hkx
      obtain rfl : x = x' := by injection ex
      obtain ⟨p, hp, hpk⟩ := m2.has_lit (show WideAt.IsKeyLit (.int .i64 x) from trivial) (has_true_of_atKey hat)
      obtain ⟨m, u⟩ := p
      have hm := hkey _ hp
      obtain rfl : (m : Int) = x := by unfold nk at hpk; injection hpk
      have hm : m < rgN s.short := hm
      have hb3 : ButOf (fun k => k = w1.heap.size) w2 w3 := hbt.trans (ButOf.of_grown hg3 (fun k e => by cases e; rfl))
      have hF3 := fr hb3
      have hmin := fun (W : World) (ts : Array TypeId) (t : TypeId) => run_min2I (P := Try.prog) W ts t v (aheadI (rgN s.short) s.next m)
      clear hvy
      generalize hvn : (if aheadI (rgN s.short) s.next m < v then aheadI (rgN s.short) s.next m else v) = v' at hmin
      replace hvn := Lib.hid hvn
      go_wp2_with (first | (go_at_call 37; refine (fromc_any hF3 hR h.next hm).mono ?_; rintro e w' ⟨rfl, rfl⟩))
      have hvn := hvn.out
      refine ⟨⟨_, cnt3, v', rfl, hrg3, hb3, ?_, ?_, ?_⟩, by rw [hrg3.left_eq, hrg'.left_eq]; omega⟩
      · split at hvn <;> omega
      · intro p hp' hl
        by_cases hpm : p.1 = m
        · rw [hpm]; split at hvn <;> omega
        · have hl2 : left (nk p.1) = false := by
            have e := nk_same p.1 m
            rw [decide_eq_false hpm] at e
            have e2 : (nk p.1).sameKey (.int .i64 (m : Int)) = false := e
            simpa [e2] using hl
          have := hv2 p hp' hl2
          split at hvn <;> omega
      · split at hvn
        · exact Or.inr ⟨_, hp, hvn.symm⟩
        · rw [← hvn]; exact hv3
end Go.Proofs.Ytglmlhbchfgliaa
