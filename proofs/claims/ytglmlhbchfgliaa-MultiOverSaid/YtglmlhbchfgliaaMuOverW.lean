/-
  MultiOver: the walk. No conditions.
-/
import Derived.Test.YtglmlhbchfgliaaMuOver
namespace Go.Proofs.Ytglmlhbchfgliaa
open Go.RowKit Go.Maps
theorem fragO_bts' {x : UInt8} {i : Nat} {c1 c2 : Int} (h1 : c1 = ((UInt8.ofNat (i / 256)).toNat : Int)) (h2 : c2 = ((UInt8.ofNat i).toNat : Int)) (w : World) : Bts (w.alloc (.cells #[Value.int .u8 192, Value.int .u8 0, Value.int .u8 c1, Value.int .u8 c2, Value.int .u8 (x.toNat : Int)] 5)) (some ⟨w.heap.size, 0, none⟩) 5 5 (fragO x i) := by
  have e : #[Value.int .u8 192, Value.int .u8 0, Value.int .u8 c1, Value.int .u8 c2, Value.int .u8 (x.toNat : Int)] = ((fragO x i).map bv).toArray := by
    subst h1; subst h2; rfl
  rw [e]
  exact Bts.new (w := w) (fragO x i) (by simp [fragO])
/-- the state ahead of number k + 1 -/
def stO (x : UInt8) (k : Nat) : JS := if k ≤ 64 then stU x k else stV k
set_option maxRecDepth 100000 in
set_option maxHeartbeats 2000000 in
theorem over_any {w : World} (t : Nat) (x : UInt8) (ht : t < 256) :
    Calls Try.prog 8 #[.int .u8 (t : Nat), .int .u8 (x.toNat : Nat)] w fun e w' => e = .returned (.bool true) ∧ Below w.heap.size w w' := by
  have hxl := x.toNat_lt
  have htw : IntKind.i64.wrap (64 + (t : Int)) = 64 + (t : Int) := by rw [IntKind.wrap_i64]; omega
  have hnew := fun W => new_any (w := W) 2 100 false (by decide) (by decide) (by decide) (by decide)
  replace hnew := Lib.hid hnew
  have hrest := newJ_rest 2 100 false (by decide) (by decide)
  replace hrest := Lib.hid hrest
  have hst0 : newJ 2 100 false = stO x 0 := rfl
  replace hst0 := Lib.hid hst0
  go_enter Try.func8, Try.ntmps8
  go_wp2_with (first | (go_at_call 12; refine (awake_any w).mono ?_; rintro e w1 ⟨rfl, hb1⟩) | (go_at_call 14; refine (hnew.out w1).mono ?_; rintro e w2 ⟨vl, rfl, hJ, hb2⟩))
  have hb12 := hb1.trans (hb2.mono hb1.size)
  go_loopw [7] (fun vi wr => ∃ (k : Nat) (s : JS), k ≤ 64 + t ∧ vi = .int .i64 ((k : Int) + 1) ∧ Jo wr w1.heap.size (w1.heap.size + 1) w1.heap.size vl s ∧ Hid (Rest s) ∧ Hid (s = stO x k) ∧ Below w.heap.size w wr) (fun vi _ => 66 + t - (intOf vi).toNat)
  case atStart => exact ⟨0, _, Nat.zero_le _, rfl, hJ, hrest, hst0, hb12⟩
  case round =>
    obtain ⟨k, s, hk, rfl, hJr, hrs, hs, hbr⟩ := hrel
    obtain ⟨i, hi⟩ : ∃ i, i = k + 1 := ⟨_, rfl⟩
    have hiI : (k : Int) + 1 = (i : Int) := by omega
    rw [hiI]
    by_cases hlt : k < 64 + t
    · have hltI : (i : Int) ≤ 64 + (t : Int) := by omega
      have hms : 66 + t - (intOf (.int .i64 ((i : Int) + 1))).toNat < 66 + t - (intOf (.int .i64 (i : Int))).toNat := by simp [intOf]; omega
      have e1 : (i : Int) / 256 = ((UInt8.ofNat (i / 256)).toNat : Int) := by rw [UInt8.toNat_ofNat']; omega
      have e2 : (i : Int) / 256 % 256 = ((UInt8.ofNat (i / 256)).toNat : Int) := by rw [UInt8.toNat_ofNat']; omega
      have e3 : (i : Int) % 256 = ((UInt8.ofNat i).toNat : Int) := by rw [UInt8.toNat_ofNat']; omega
      have e4 : i < 256 → (i : Int) = ((UInt8.ofNat i).toNat : Int) := fun h => by rw [UInt8.toNat_ofNat']; omega
      have hb4 := fun cs => below_alloc (Below.refl wr.heap.size wr) (.cells cs 5) (Nat.le_refl _)
      have hbB := fun cs => hbr.trans ((hb4 cs).mono hbr.size)
      replace hJr := fun cs => hJr.below (hb4 cs)
      replace e1 := Lib.hid e1
      replace e2 := Lib.hid e2
      replace e3 := Lib.hid e3
      replace hms := Lib.hid hms
      obtain ⟨s1, hs1⟩ : ∃ s1, s1 = stO x (k + 1) := ⟨_, rfl⟩
      have hmain : ∃ L0 ln hl nx, AddR s 0 (fragO x i) L0 0 s1 ∧ L0.length = ln ∧ s1.held.length = hl ∧ s1.next = nx ∧ ((i ≤ 64 ∧ ln = 0 ∧ hl = i ∧ nx = 0) ∨ (i = 65 ∧ hl = 0 ∧ nx = i + 1) ∨ (65 < i ∧ ln = 1 ∧ hl = 0 ∧ nx = i + 1)) := by
        rw [hs.out, hs1]
        unfold stO
        by_cases h1 : k < 64
        · rw [if_pos (by omega), if_pos (by omega), hi]
          exact ⟨_, _, _, _, addU_few h1, rfl, rfl, rfl, Or.inl ⟨by omega, rfl, by simp [stU, heldO], rfl⟩⟩
        · by_cases h2 : k = 64
          · subst h2
            rw [if_pos (by omega), if_neg (by omega), hi]
            exact ⟨_, _, _, _, addU_much, rfl, rfl, rfl, Or.inr (Or.inl ⟨by omega, rfl, rfl⟩)⟩
          · rw [if_neg (by omega), if_neg (by omega), hi]
            exact ⟨_, _, _, _, addV (by omega), rfl, rfl, rfl, Or.inr (Or.inr ⟨by omega, rfl, rfl, rfl⟩)⟩
      obtain ⟨L0, ln, hl, nx, hadd, hLn, hHl, hNx, hcase⟩ := hmain
      have hrs1 := Lib.hid (hadd.rest hrs.out (by simp [fragO])).1
      replace hs1 := Lib.hid hs1
      replace hi := Lib.hid hi
      rcases hcase with ⟨h1, rfl, rfl, rfl⟩ | ⟨h1, rfl, rfl⟩ | ⟨h1, rfl, rfl, rfl⟩
      · have h1I : (hl : Int) ≤ 64 := by omega
        replace h1 := Lib.hid h1
        have h2I : ((hl : Int) == 65) = false := by have := h1.out; rw [beq_eq_false_iff_ne]; omega
        have h3I : decide ((65 : Int) < (hl : Int)) = false := by have := h1.out; simp; omega
        have h256 : Hid (hl < 256) := Lib.hid (by have := h1.out; omega)
        replace hadd := Lib.hid hadd
        replace hHl := Lib.hid hHl
        replace hNx := Lib.hid hNx
        replace hLn := Lib.hid hLn
        clear hs hbr hnew hrest
        go_wp2_with (first | (go_at_call 15; refine (add_any 0 (hJr _) hrs.out (fragO_bts' (x := x) (i := hl) (by first | exact e1.out | exact e2.out) (by first | exact e3.out | exact e4 h256.out) wr) (by simp [fragO])).mono ?_; rintro e w5 ⟨v5, L5, e5, t5, rfl, hR5, hJ5, hF5, hb5⟩; obtain ⟨rfl, rfl, rfl⟩ := hadd.out.one hR5; obtain ⟨a5, c5, rfl⟩ := hF5.slice; rw [hLn.out]) | (go_at_call 22; refine (held_any hJ5).mono ?_; rintro e w' ⟨rfl, rfl⟩; rw [hHl.out]) | (go_at_call 23; refine (next_any hJ5).mono ?_; rintro e w' ⟨rfl, rfl⟩; rw [hNx.out]))
        exact ⟨⟨k + 1, s1, by omega, by (first | (rw [hi.out]; rfl) | rw [hi.out]), hJ5, hrs1, hs1, (hJr _).under (hbB _) hb1.size hb5⟩, hms.out⟩
      · have h1I : decide ((i : Int) ≤ 64) = false := by simp; omega
        have h2I : ((i : Int) == 65) = true := by rw [beq_iff_eq]; omega
        have h3I : decide ((65 : Int) < (i : Int)) = false := by simp; omega
        replace h1 := Lib.hid h1
        have h256 : Hid (i < 256) := Lib.hid (by have := h1.out; omega)
        replace hadd := Lib.hid hadd
        replace hHl := Lib.hid hHl
        replace hNx := Lib.hid hNx
        replace hLn := Lib.hid hLn
        clear hs hbr hnew hrest
        go_wp2_with (first | (go_at_call 15; refine (add_any 0 (hJr _) hrs.out (fragO_bts' (x := x) (i := i) (by first | exact e1.out | exact e2.out) (by first | exact e3.out | exact e4 h256.out) wr) (by simp [fragO])).mono ?_; rintro e w5 ⟨v5, L5, e5, t5, rfl, hR5, hJ5, hF5, hb5⟩; obtain ⟨rfl, rfl, rfl⟩ := hadd.out.one hR5; obtain ⟨a5, c5, rfl⟩ := hF5.slice; rw [hLn.out]) | (go_at_call 22; refine (held_any hJ5).mono ?_; rintro e w' ⟨rfl, rfl⟩; rw [hHl.out]) | (go_at_call 23; refine (next_any hJ5).mono ?_; rintro e w' ⟨rfl, rfl⟩; rw [hNx.out]))
        go_roundw
        case rel => exact ⟨k + 1, s1, by omega, by (first | (rw [hi.out]; rfl) | rw [hi.out]), hJ5, hrs1, hs1, (hJr _).under (hbB _) hb1.size hb5⟩
        case measure => exact hms.out
      · have h1I : decide ((i : Int) ≤ 64) = false := by simp; omega
        have h2I : ((i : Int) == 65) = false := by rw [beq_eq_false_iff_ne]; omega
        have h3I : decide ((65 : Int) < (i : Int)) = true := by simp; omega
        replace h1 := Lib.hid h1
        replace hadd := Lib.hid hadd
        replace hHl := Lib.hid hHl
        replace hNx := Lib.hid hNx
        replace hLn := Lib.hid hLn
        clear hs hbr hnew hrest
        go_wp2_with (first | (go_at_call 15; refine (add_any 0 (hJr _) hrs.out (fragO_bts' (x := x) (i := i) (by first | exact e1.out | exact e2.out) (by first | exact e3.out) wr) (by simp [fragO])).mono ?_; rintro e w5 ⟨v5, L5, e5, t5, rfl, hR5, hJ5, hF5, hb5⟩; obtain ⟨rfl, rfl, rfl⟩ := hadd.out.one hR5; obtain ⟨a5, c5, rfl⟩ := hF5.slice; rw [hLn.out]) | (go_at_call 22; refine (held_any hJ5).mono ?_; rintro e w' ⟨rfl, rfl⟩; rw [hHl.out]) | (go_at_call 23; refine (next_any hJ5).mono ?_; rintro e w' ⟨rfl, rfl⟩; rw [hNx.out]))
        go_roundw
        case rel => exact ⟨k + 1, s1, by omega, by (first | (rw [hi.out]; rfl) | rw [hi.out]), hJ5, hrs1, hs1, (hJr _).under (hbB _) hb1.size hb5⟩
        case measure => exact hms.out
    · have hltI : ¬ ((i : Int) ≤ 64 + (t : Int)) := by omega
      replace hi := Lib.hid hi
      go_wp2_with fail
      go_ret
      exact ⟨rfl, hbr⟩
end Go.Proofs.Ytglmlhbchfgliaa
