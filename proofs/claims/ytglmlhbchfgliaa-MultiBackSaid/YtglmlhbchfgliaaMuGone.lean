/-
  Whether a number is lost: plainly, and the program's walk. No conditions.
-/
import Derived.Test.YtglmlhbchfgliaaMuLeast
import Derived.Test.YtglmlhbchfgliaaHeld
import Derived.Deep.RegionHeld
import Derived.Deep.MidRow
namespace Go.Proofs.Ytglmlhbchfgliaa
open Go.RowKit Go.Maps
/-- is a link's last number ahead of this one -/
def pastP (R at_ : Nat) (x : Int) : Bool := decide (0 ≤ x) && decide (1 ≤ aheadI R at_ x.toNat)
def goneP (s : JS) (n : Nat) : Bool := s.last.all (pastP (rgN s.short) ((s.next + n) % rgN s.short))
theorem row_at {w : World} {B n : Nat} {v : Value} {L : List Int} (h : w.ownsRow B 3 1 v n (L.map zv)) {k : Nat} (hk : k < L.length) : ∃ b, b < w.heap.size ∧ (∃ c, v = .slice (some ⟨b, 0, none⟩) n c) ∧ w.cell? ⟨b, k, none⟩ = some (.int .i64 (L.getD k 0)) := by
  have hl : L.length = n := by simpa using h.1
  have hx := h
  rcases h.2 with ⟨h1, h0⟩ | ⟨g, cap, cur, h1, _, hg, hn, hm, hs, ht⟩
  · omega
  · subst h1
    refine ⟨g, (Array.getElem?_eq_some_iff.1 hg).1, ⟨cap, rfl⟩, ?_⟩
    have h2 := World.ownsRow.cellAt hx k (by omega)
    exact h2.trans (by simp [List.getD_eq_getElem?_getD, List.getElem?_eq_getElem hk, zv])
set_option maxRecDepth 100000 in
set_option maxHeartbeats 2000000 in
theorem gone_any {w : World} {B b bm : Nat} {vl : Value} {s : JS} (n : Nat) (h : Jo w B b bm vl s) (hn : n ≤ 1000) (hl : s.last.length ≤ 1000) :
    Calls Try.prog 41 #[.pointer (some ⟨b, 0, none⟩), .int .i64 (n : Nat)] w fun e w' => e = .returned (.bool (goneP s n)) ∧ Below w.heap.size w w' := by
  have g2 := h.c2
  have g3 := h.c3
  have hR := rgN_two s.short
  have hnI : (n : Int) ≤ 1000 := by omega
  have hxI : (s.next : Int) < 16777216 := by have := h.next; omega
  have hrem : ((s.next : Int) + (n : Int)).tmod (rgN s.short : Int) = (((s.next + n) % rgN s.short : Nat) : Int) := by rw [Int.tmod_eq_emod_of_nonneg (by omega), show (s.next : Int) + (n : Int) = ((s.next + n : Nat) : Int) by omega]; exact (Int.natCast_emod _ _).symm
  have hRz : ((rgN s.short : Int) == 0) = false := by rw [beq_eq_false_iff_ne]; omega
  have hR0 : ¬ rgN s.short = 0 := by omega
  have hwr : IntKind.i64.wrap ((s.next : Int) + (n : Int)) = (s.next : Int) + (n : Int) := by rw [IntKind.wrap_i64]; omega
  obtain ⟨al, cl, rfl⟩ := own_slice h.row
  have hat := Nat.mod_lt (s.next + n) (rgN_pos s.short)
  have hgp : goneP s n = s.last.all (pastP (rgN s.short) ((s.next + n) % rgN s.short)) := rfl
  replace hgp := Lib.hid hgp
  have hfr := fun W hW => from_any (w := W) (b := b) (short := s.short) ((s.next + n) % rgN s.short) hW
  replace hfr := Lib.hid hfr
  generalize hq : (s.next + n) % rgN s.short = q at hrem hat hgp hfr
  replace hq := Lib.hid hq
  go_enter Try.func41, Try.ntmps41
  go_wp2_with fail
  go_region_held3 (fun W => W.cell? ⟨b, 3, none⟩ = some (.int .i64 (s.next : Nat)) ∧ W.cell? ⟨b, 2, none⟩ = some (.bool s.short)) (first | exact ⟨g3, g2⟩ | exact ⟨g3', g2'⟩) ((first | (go_at_call 27; refine (ring_any _ _).mono ?_; rintro e w' ⟨rfl, rfl⟩) | (go_at_call 29; refine (hfr.out w.drew g2).mono ?_; rintro e w1 ⟨rfl, hF, hb⟩; have hb' := below_of_drew hb; have h1 := h.below hb'; have g3' := h1.c3; have g2' := h1.c2; have g5 := h1.c5; simp only [fromV, show w.drew.heap.size = w.heap.size from rfl])))
  go_wp2_with fail
  go_loopw [7, 27] (fun _ vi wr => ∃ k : Nat, k ≤ s.last.length ∧ vi = .int .i64 k ∧ Hid ((s.last.take k).all (pastP (rgN s.short) q) = true) ∧ Below w.heap.size w wr ∧ From wr w.heap.size (w.heap.size + 1) (rgN s.short) q) (fun _ vi _ => s.last.length - (intOf vi).toNat)
  case atStart => exact ⟨0, Nat.zero_le _, rfl, Lib.hid (by simp), hb', hF⟩
  case round =>
    obtain ⟨k, hk, rfl, hal, hbr, hFr⟩ := hrel
    by_cases hlt : k < s.last.length
    · have hltI : (k : Int) < (s.last.length : Int) := by omega
      have hJr := h.below hbr
      obtain ⟨g, hg, ⟨c, ec⟩, gk⟩ := row_at hJr.row hlt
      cases ec
      have hk1 : k + 1 ≤ s.last.length := by omega
      have hms : s.last.length - (intOf (.int .i64 ((k : Int) + 1))).toNat < s.last.length - (intOf (.int .i64 (k : Int))).toNat := by simp [intOf]; omega
      replace hms := Lib.hid hms
      replace hk1 := Lib.hid hk1
      have htk : s.last.take (k + 1) = s.last.take k ++ [s.last.getD k 0] := by rw [List.take_succ_eq_append_getElem hlt]; simp [List.getD_eq_getElem?_getD, hlt]
      have hall : (s.last.take (k + 1)).all (pastP (rgN s.short) q) = pastP (rgN s.short) q (s.last.getD k 0) := by rw [htk, List.all_append, hal.out]; simp
      have hno : pastP (rgN s.short) q (s.last.getD k 0) = false → goneP s n = false := fun e => by
        rw [hgp.out, ← List.take_append_drop (k + 1) s.last, List.all_append, hall, e, Bool.false_and]
      have hbd := h.lst (s.last.getD k 0) (by rw [List.getD_eq_getElem?_getD, List.getElem?_eq_getElem hlt]; exact List.getElem_mem hlt)
      replace hall := Lib.hid hall
      clear htk
      generalize s.last.getD k 0 = x at gk hall hno hbd
      by_cases hx : x < 0
      · clear hbd
        go_wp2_with fail
        go_ret
        exact ⟨ret_bool (hno (by unfold pastP; simp; omega)).symm, hbr⟩
      · have hx0 : 0 ≤ x := by omega
        obtain ⟨y, rfl⟩ := Int.eq_ofNat_of_zero_le hx0
        have hy : y < rgN s.short := by omega
        clear hbd hx
        have hpe : pastP (rgN s.short) q (y : Int) = decide (1 ≤ aheadI (rgN s.short) q y) := by unfold pastP; simp
        by_cases ha : aheadI (rgN s.short) q y < 1
        · have hf := hno (by rw [hpe]; simpa using ha)
          replace hpe := Lib.hid hpe
          replace hf := Lib.hid hf
          clear hno
          go_wp2_with (go_at_call 37; refine (fromc_any hFr hR hat hy).mono ?_; rintro e w' ⟨rfl, rfl⟩)
          go_ret
          exact ⟨ret_bool hf.out.symm, hbr⟩
        · have hf : pastP (rgN s.short) q (y : Int) = true := by rw [hpe]; simp; omega
          rw [hf] at hall
          have hc := Lib.hid (fromc_any hFr hR hat hy)
          clear hno hpe hf hfr hrem hwr hRz hR0 hxI
          generalize aheadI (rgN s.short) q y = A at hc ha
          have ha1 : 1 ≤ A := by omega
          clear ha
          go_wp2_with (go_at_call 37; refine hc.out.mono ?_; rintro e w' ⟨rfl, rfl⟩)
          go_roundw
          case rel => exact ⟨k + 1, hk1.out, rfl, hall, hbr, hFr⟩
          case measure => exact hms.out
    · have hke : k = s.last.length := by omega
      replace hke := Lib.hid hke
      go_wp2_with fail
      go_ret
      have e := hal.out
      rw [hke.out, List.take_length] at e
      exact ⟨ret_bool (by rw [hgp.out, e]), hbr⟩
end Go.Proofs.Ytglmlhbchfgliaa
