/-
  Frames: whether two lists of rows of bytes are the same. No conditions.
-/
import Derived.Test.YtglmlhbchfgliaaMuFr
import Derived.Test.YtglmlhbchfgliaaHeld
import Derived.Lib.Hide
namespace Go.Proofs.Ytglmlhbchfgliaa
open Go.RowKit
/-- a slice whose elements read as the rows L -/
structure Rl (w : World) (a : Option Addr) (n c : Nat) (L : List (List UInt8)) : Prop where
  len : L.length = n
  cap : n ≤ c ∧ c ≤ 9223372036854775807
  cell : ∀ i, i < n → ∃ g o xa xc, a = some ⟨g, o, none⟩ ∧ w.cell? ⟨g, o + i, none⟩ = some (.slice xa (L.getD i []).length xc) ∧ Bts w xa (L.getD i []).length xc (L.getD i [])
theorem Rl.below {w w' : World} {a : Option Addr} {n c : Nat} {L : List (List UInt8)} (h : Rl w a n c L) (hb : Below w.heap.size w w') : Rl w' a n c L := by
  refine ⟨h.len, h.cap, fun i hi => ?_⟩
  obtain ⟨g, o, xa, xc, rfl, h1, h2⟩ := h.cell i hi
  exact ⟨g, o, xa, xc, rfl, (hb.cell (p := ⟨g, o + i, none⟩) (World.block_lt_of_cell? _ _ h1)).trans h1, h2.below hb (Nat.le_refl _)⟩
theorem Fr.rl {w : World} {B : Nat} {v : Value} {L : List (List UInt8)} (h : Fr w B v L) (hs : ∀ x ∈ L, x.length ≤ 140737488355328) : ∃ a c, v = .slice a L.length c ∧ Rl w a L.length c L := by
  obtain ⟨xs, h1, h2⟩ := h.ex
  have hcell : ∀ i, i < L.length → ∃ xa xc, xs[i]? = some (.slice xa (L.getD i []).length xc) ∧ Bts w xa (L.getD i []).length xc (L.getD i []) := fun i hi => by
    obtain ⟨x, hx1, hx2⟩ := h2.get hi
    obtain ⟨xa, xc, rfl, hB⟩ := Bts.of_own hx2 (hs _ (by rw [List.getD_eq_getElem?_getD, List.getElem?_eq_getElem hi]; exact List.getElem_mem hi))
    exact ⟨xa, xc, hx1, hB⟩
  have hx := h1
  rcases h1.2 with ⟨rfl, h0⟩ | ⟨g, cap, cur, rfl, _, hg, hn, hm, _⟩
  · exact ⟨none, 0, by rw [h0], rfl, by omega, fun i hi => by omega⟩
  · unfold maxLen at hm
    refine ⟨some ⟨g, 0, none⟩, cap, rfl, rfl, ⟨hn, hm⟩, fun i hi => ?_⟩
    obtain ⟨xa, xc, h3, h4⟩ := hcell i hi
    refine ⟨g, 0, xa, xc, rfl, ?_, h4⟩
    rw [Nat.zero_add]
    exact (World.ownsRow.cellAt hx i (by omega)).trans h3
theorem take_next {l1 l2 : List (List UInt8)} {k : Nat} (h1 : k < l1.length) (h2 : k < l2.length) (h : l1.take k = l2.take k) (he : l1.getD k [] = l2.getD k []) : l1.take (k + 1) = l2.take (k + 1) := by
  rw [List.take_succ_eq_append_getElem h1, List.take_succ_eq_append_getElem h2, h]
  simp only [List.getD_eq_getElem?_getD, List.getElem?_eq_getElem h1, List.getElem?_eq_getElem h2, Option.getD_some] at he
  rw [he]
set_option maxRecDepth 100000 in
set_option maxHeartbeats 1000000 in
theorem frames_any (a1 a2 : Option Addr) (n1 n2 c1 c2 : Nat) (l1 l2 : List (List UInt8)) (w : World) (hR1 : Rl w a1 n1 c1 l1) (hR2 : Rl w a2 n2 c2 l2) :
    Calls Try.prog 20 #[.slice a1 n1 c1, .slice a2 n2 c2] w fun e w' => e = .returned (.bool (decide (l1 = l2))) ∧ Below w.heap.size w w' := by
  have hl1 := hR1.len
  have hl2 := hR2.len
  have hc1 := hR1.cap
  have hc2 := hR2.cap
  by_cases hn : n1 = n2
  · subst hn
    have hne : (((n1 : Nat) : Int) != (n1 : Int)) = false := by simp
    go_enter Try.func20, Try.ntmps20
    go_wp2_with fail
    go_loopw [5] (fun i wr => ∃ k : Nat, k ≤ n1 ∧ i = .int .i64 k ∧ Hid (l1.take k = l2.take k) ∧ Below w.heap.size w wr) (fun i _ => n1 - (intOf i).toNat)
    case atStart => exact ⟨0, by omega, rfl, Lib.hid rfl, Below.refl _ _⟩
    case round =>
      obtain ⟨k, hk, rfl, ht, hb⟩ := hrel
      by_cases hlt : k < n1
      · have hltI : (k : Int) < (n1 : Int) := by omega
        obtain ⟨g, o, xa, xc, rfl, k1, B1⟩ := (hR1.below hb).cell k hlt
        obtain ⟨g', o', xa', xc', rfl, k2, B2⟩ := (hR2.below hb).cell k hlt
        have hms : n1 - (intOf (.int .i64 ((k : Int) + 1))).toNat < n1 - (intOf (.int .i64 (k : Int))).toNat := by simp [intOf]; omega
        replace hms := Lib.hid hms
        have hsm := fun W (hW : Below wr.heap.size wr W) => same_any _ _ _ _ _ _ _ _ W (B1.below hW (Nat.le_refl _)) (B2.below hW (Nat.le_refl _))
        by_cases he : l1.getD k [] = l2.getD k []
        · have hs := take_next (by omega) (by omega) ht.out he
          have hs' := Lib.hid hs; clear hs
          simp only [decide_eq_true he] at hsm
          replace hsm := Lib.hid hsm
          clear he B1 B2
          generalize (l1.getD k []).length = x1 at *
          generalize (l2.getD k []).length = x2 at *
          go_wp2_with fail
          go_region_held3 (fun W => W.cell? ⟨g, o + k, none⟩ = some (.slice xa x1 xc) ∧ W.cell? ⟨g', o' + k, none⟩ = some (.slice xa' x2 xc')) (first | exact ⟨k1, k2⟩ | exact ⟨k1', k2'⟩) ((go_at_call 16; refine (hsm.out wr.drew (Below.refl _ _).drew).mono ?_; rintro e w5 ⟨rfl, hb5⟩; have hb5' := below_of_drew hb5; have k1' := (hb5'.cell (p := ⟨g, o + k, none⟩) (World.block_lt_of_cell? _ _ k1)).trans k1; have k2' := (hb5'.cell (p := ⟨g', o' + k, none⟩) (World.block_lt_of_cell? _ _ k2)).trans k2))
          go_wp2_with fail
          go_roundw
          case rel => exact ⟨k + 1, by omega, rfl, hs'.out, hb.trans (hb5'.mono hb.size)⟩
          case measure => exact hms.out
        · have hne2 : decide (l1 = l2) = false := decide_eq_false (fun e => he (by rw [e]))
          simp only [decide_eq_false he] at hsm
          replace hsm := Lib.hid hsm
          have hne3 := Lib.hid hne2; clear hne2 he B1 B2
          generalize (l1.getD k []).length = x1 at *
          generalize (l2.getD k []).length = x2 at *
          go_wp2_with fail
          go_region_held3 (fun W => W.cell? ⟨g, o + k, none⟩ = some (.slice xa x1 xc) ∧ W.cell? ⟨g', o' + k, none⟩ = some (.slice xa' x2 xc')) (first | exact ⟨k1, k2⟩ | exact ⟨k1', k2'⟩) ((go_at_call 16; refine (hsm.out wr.drew (Below.refl _ _).drew).mono ?_; rintro e w5 ⟨rfl, hb5⟩; have hb5' := below_of_drew hb5; have k1' := (hb5'.cell (p := ⟨g, o + k, none⟩) (World.block_lt_of_cell? _ _ k1)).trans k1; have k2' := (hb5'.cell (p := ⟨g', o' + k, none⟩) (World.block_lt_of_cell? _ _ k2)).trans k2))
          go_wp2_with fail
          go_ret
          exact ⟨ret_bool hne3.out.symm, hb.trans (hb5'.mono hb.size)⟩
      · have hke : k = n1 := by omega
        have ht := ht.out
        rw [List.take_of_length_le (by omega), List.take_of_length_le (by omega)] at ht
        replace ht := Lib.hid ht
        replace hke := Lib.hid hke
        go_wp2_with fail
        go_ret
        exact ⟨ret_bool (decide_eq_true ht.out).symm, hb⟩
  · have hne : (((n1 : Nat) : Int) != (n2 : Int)) = true := by simp; omega
    have hne2 : decide (l1 = l2) = false := decide_eq_false (fun e => hn (by rw [← hl1, ← hl2, e]))
    have hne3 := Lib.hid hne2; clear hne2
    go_enter Try.func20, Try.ntmps20
    go_wp2_with fail
    go_ret
    exact ⟨ret_bool hne3.out.symm, Below.refl _ _⟩
end Go.Proofs.Ytglmlhbchfgliaa
