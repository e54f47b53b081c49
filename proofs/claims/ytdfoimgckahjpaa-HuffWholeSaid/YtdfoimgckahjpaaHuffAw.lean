/-
  The walk of awake, and of the statement HuffKnown. No conditions.
-/
import Derived.Test.YtdfoimgckahjpaaHuffNew
namespace Go.Proofs.Ytdfoimgckahjpaa
open Go.RowKit
theorem Zs.of_blk {w : World} {g : Nat} {l : List Int} (h : Blk w g (l.map zv).toArray 3) (hl : l.length ≤ 1000) : Zs w (some ⟨g, 0, none⟩) l.length l.length l := by
  refine ⟨rfl, Nat.le_refl _, by omega, fun e => (by cases e), fun j hj => ⟨g, 0, rfl, ?_⟩⟩
  rw [Nat.zero_add, h.cell]
  simp [List.getD_eq_getElem?_getD, hj]
theorem Zs.nil_ (w : World) : Zs w none 0 0 [] := ⟨rfl, Nat.le_refl _, by omega, fun _ => rfl, fun j hj => by omega⟩
theorem ints_inj {L M : List Nat} (h : ints L = ints M) : L = M := by
  have : (ints L).map Int.toNat = (ints M).map Int.toNat := by rw [h]
  simpa [ints, Function.comp_def] using this
/-- New at lengths that may be -/
theorem Newed.of {w w' : World} {L : List Nat} {e : Ending} (h : Newed w (ints L) e w') (h1 : L.length ≤ 320) (h2 : ∀ x, x ∈ L → x ≤ 15) :
    Below w.heap.size w w' ∧ (wholeB L = false ∧ e = .returned (.tuple #[.pointer none, .int .i64 10]) ∨ wholeB L = true ∧ ∃ b, e = .returned (.tuple #[.pointer (some ⟨b, 0, none⟩), .int .i64 0]) ∧ w.heap.size ≤ b ∧ Tb w' b L) := by
  refine ⟨h.1, ?_⟩
  rcases h.2 with ⟨h3 | ⟨x, hx, h3⟩, _⟩ | ⟨M, hM, _, _, h3⟩
  · simp [ints] at h3; omega
  · simp only [ints, List.mem_map] at hx
    obtain ⟨n, hn, rfl⟩ := hx
    have := h2 n hn
    have e : (Int.ofNat n) = (n : Int) := rfl
    rw [e] at h3
    omega
  · have := ints_inj hM
    subst this
    exact h3
/-- New at lengths that may not be -/
theorem Newed.bad {w w' : World} {l : List Int} {e : Ending} (h : Newed w l e w') {x : Int} (hx : x ∈ l) (hb : x < 0 ∨ 15 < x) : Below w.heap.size w w' ∧ e = .returned (.tuple #[.pointer none, .int .i64 1]) := by
  refine ⟨h.1, ?_⟩
  rcases h.2 with ⟨_, h3⟩ | ⟨M, rfl, _, h4, _⟩
  · exact h3
  · simp only [ints, List.mem_map] at hx
    obtain ⟨n, hn, rfl⟩ := hx
    have := h4 n hn
    have e : (Int.ofNat n) = (n : Int) := rfl
    rw [e] at hb
    omega
/-- New at lengths that were written down -/
theorem new_lit (L : List Nat) (w : World) (h1 : L.length ≤ 320) :
    Calls Try.prog 20 #[.slice (some ⟨w.heap.size, 0, none⟩) L.length L.length] (w.alloc (.cells ((ints L).map zv).toArray 3)) fun e w' => Newed (w.alloc (.cells ((ints L).map zv).toArray 3)) (ints L) e w' ∧ Below w.heap.size w w' := by
  have hl : (ints L).length = L.length := by simp [ints]
  have hZ := Zs.of_blk (Blk.new w ((ints L).map zv).toArray 3) (by omega)
  rw [hl] at hZ
  refine (new_any hZ (by omega)).mono ?_
  intro e w' h
  have hs := alloc_size w (.cells ((ints L).map zv).toArray 3)
  exact ⟨h, (below_alloc (Below.refl w.heap.size w) _ (Nat.le_refl _)).trans (h.1.mono (by omega))⟩
theorem aw_whole : wholeB [2, 1, 3, 3] = true := by decide +kernel
theorem aw_code : codeOf [2, 1, 3, 3] 3 = 7 := by decide +kernel
set_option maxHeartbeats 1000000 in
theorem awake_any (w : World) : Calls Try.prog 19 #[] w fun e w' => e = .returned (.bool true) ∧ Below w.heap.size w w' := by
  go_enter Try.func19, Try.ntmps19
  go_wp2_with fail
  refine (new_lit [2, 1, 3, 3] w (by decide)).mono ?_
  rintro e w1 ⟨hN, hb⟩
  rcases (hN.of (by decide) (by decide)).2 with ⟨hf, _⟩ | ⟨_, b, rfl, _, hT⟩
  · rw [aw_whole] at hf; cases hf
  have hc := code_in hT (i := 3) (by decide)
  rw [aw_code] at hc
  clear hN hT
  go_wp2_with fail
  refine hc.mono ?_
  rintro e w2 ⟨rfl, m, rfl⟩
  unfold nv
  go_wp2_with fail
  go_ret
  exact ⟨rfl, below_drewN hb m⟩
set_option maxHeartbeats 2000000 in
theorem known_any (w : World) : Calls Try.prog 4 #[] w fun e w' => e = .returned (.bool true) ∧ Below w.heap.size w w' := by
  have q1 : wholeB [1, 1, 1] = false := by decide +kernel
  have q2 : wholeB [2, 2] = false := by decide +kernel
  have q3 : wholeB [1] = true := by decide +kernel
  have q4 : wholeB [] = true := by decide +kernel
  go_enter Try.func4, Try.ntmps4
  go_wp2_with (go_at_call 19; refine (awake_any _).mono ?_; rintro e w1 ⟨rfl, hb⟩)
  refine (new_lit [1, 1, 1] w1 (by decide)).mono ?_
  rintro e w2 ⟨hN, hb2⟩
  rcases (hN.of (by decide) (by decide)).2 with ⟨_, rfl⟩ | ⟨hf, _⟩
  case inr => rw [q1] at hf; cases hf
  have hb := hb.trans (hb2.mono hb.size)
  clear hN hb2 q1
  go_wp2_with fail
  refine (new_lit [2, 2] w2 (by decide)).mono ?_
  rintro e w3 ⟨hN, hb2⟩
  rcases (hN.of (by decide) (by decide)).2 with ⟨_, rfl⟩ | ⟨hf, _⟩
  case inr => rw [q2] at hf; cases hf
  have hb := hb.trans (hb2.mono hb.size)
  clear hN hb2 q2
  go_wp2_with fail
  refine (new_lit [1] w3 (by decide)).mono ?_
  rintro e w4 ⟨hN, hb2⟩
  rcases (hN.of (by decide) (by decide)).2 with ⟨hf, _⟩ | ⟨_, b4, rfl, _, _⟩
  case inl => rw [q3] at hf; cases hf
  have hb := hb.trans (hb2.mono hb.size)
  clear hN hb2 q3
  go_wp2_with fail
  refine (new_any (Zs.nil_ w4) (by decide)).mono ?_
  intro e w5 hN
  have hN : Newed w4 (ints []) e w5 := hN
  rcases (hN.of (by decide) (by decide)).2 with ⟨hf, _⟩ | ⟨_, b5, rfl, _, _⟩
  case inl => rw [q4] at hf; cases hf
  have hb := hb.trans (hN.1.mono hb.size)
  clear hN q4
  go_wp2_with fail
  refine (new_lit [16] w5 (by decide)).mono ?_
  rintro e w6 ⟨hN, hb2⟩
  obtain ⟨_, rfl⟩ := hN.bad (x := 16) (by simp [ints]) (by omega)
  have hb := hb.trans (hb2.mono hb.size)
  clear hN hb2
  go_wp2_with fail
  go_ret
  exact ⟨rfl, hb⟩
end Go.Proofs.Ytdfoimgckahjpaa
