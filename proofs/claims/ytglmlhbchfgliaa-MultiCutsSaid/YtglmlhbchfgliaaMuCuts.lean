/-
  MultiCuts: the walk. No conditions.
-/
import Derived.Test.YtglmlhbchfgliaaMuRCut
import Derived.Test.YtglmlhbchfgliaaMuSame
import Derived.Test.YtglmlhbchfgliaaMuFrames
namespace Go.Proofs.Ytglmlhbchfgliaa
open Go.RowKit
theorem cutP_most {l : List UInt8} {size first : Int} {short : Bool} : ∀ x ∈ (cutP l size first short).1, x.length ≤ l.length + 4 := by
  unfold cutP
  split
  · intro x hx; cases hx
  · split
    · intro x hx; cases hx
    · exact cutF_most (f1 := true)
theorem cuts_out {w : World} (a : Option Addr) (n c : Nat) (s x : Int) (y : Bool) (h1 : (2000 : Int) < n) :
    Calls Try.prog 4 #[.slice a n c, .int .i64 s, .agg #[.int .i64 x, .bool y]] w fun e w' => e = .returned (.bool true) ∧ Below w.heap.size w w' := by
  have hb0 := below_alloc (Below.refl w.heap.size w) (.cells #[.int .i64 x, .bool y] 35) (Nat.le_refl _)
  go_enter Try.func4, Try.ntmps4
  go_wp2_with (go_at_call 12; refine (awake_any _).mono ?_; rintro e w2 ⟨rfl, hb2⟩)
  go_ret
  exact ⟨rfl, hb0.trans (hb2.mono hb0.size)⟩
set_option maxRecDepth 100000 in
set_option maxHeartbeats 2000000 in
theorem cuts_in {w : World} {a : Option Addr} {n c : Nat} {l : List UInt8} (s x : Int) (y : Bool) (hB : Bts w a n c l) (hn : n ≤ 2000) (hs : s ≤ 9223372036854775807) :
    Calls Try.prog 4 #[.slice a n c, .int .i64 s, .agg #[.int .i64 x, .bool y]] w fun e w' => e = .returned (.bool true) ∧ Below w.heap.size w w' := by
  have hb0 := below_alloc (Below.refl w.heap.size w) (.cells #[.int .i64 x, .bool y] 35) (Nat.le_refl _)
  have hnI : (n : Int) ≤ 2000 := by omega
  have k0 := Blk.new w #[.int .i64 x, .bool y] 35
  have hcut := fun W hW => cut_any (w := W) (a := a) (n := n) (c := c) (l := l) s x y hW (by omega) hs
  have hrcut := fun W hW => rcut_any (w := W) (a := a) (n := n) (c := c) (l := l) s x y hW (by omega) hs
  have hhd := fun W hW => mhead_any (w := W) (a := a) (n := n) (c := c) (l := l) y hW
  have hrhd := fun W hW => rhead_any (w := W) (a := a) (n := n) (c := c) (l := l) y hW
  have hmost := cutP_most (l := l) (size := s) (first := x) (short := y)
  have hbody := headP_len (l := l) (short := y)
  generalize cutP l s x y = X at hcut hrcut hmost
  generalize headP l y = Y at hhd hrhd hbody
  obtain ⟨L, nx, er⟩ := X
  obtain ⟨m, f1, f2, body, er2⟩ := Y
  simp only [Hd.res] at hcut hrcut hmost hhd hrhd hbody
  have hnl := hB.len
  replace hcut := Lib.hid hcut
  replace hrcut := Lib.hid hrcut
  replace hhd := Lib.hid hhd
  replace hrhd := Lib.hid hrhd
  go_enter Try.func4, Try.ntmps4
  go_wp2_with (go_at_call 12; refine (awake_any _).mono ?_; rintro e w2 ⟨rfl, hb2⟩; have k2 := (k0.below hb2 k0.lt).cell 0; have k3 := (k0.below hb2 k0.lt).cell 1; simp only [List.getElem?_toArray, List.getElem?_cons_succ, List.getElem?_cons_zero] at k2 k3; have hb02 := hb0.trans (hb2.mono hb0.size))
  go_wp2_with (go_at_call 13; refine (hcut.out _ (hB.below hb02 (Nat.le_refl _))).mono ?_; rintro e w3 ⟨v3, rfl, hF3, hb3⟩; obtain ⟨a3, c3, rfl⟩ := hF3.slice; have k23 := (hb3.cell (p := ⟨w.heap.size, 0, none⟩) (World.block_lt_of_cell? _ _ k2)).trans k2; have k33 := (hb3.cell (p := ⟨w.heap.size, 1, none⟩) (World.block_lt_of_cell? _ _ k3)).trans k3; have hb03 := hb02.trans (hb3.mono hb02.size))
  go_wp2_with (go_at_call 17; refine (hrcut.out _ (hB.below hb03 (Nat.le_refl _))).mono ?_; rintro e w4 ⟨v4, rfl, hF4, hb4⟩; obtain ⟨a4, c4, rfl⟩ := hF4.slice; have k24 := (hb4.cell (p := ⟨w.heap.size, 0, none⟩) (World.block_lt_of_cell? _ _ k23)).trans k23; have k34 := (hb4.cell (p := ⟨w.heap.size, 1, none⟩) (World.block_lt_of_cell? _ _ k33)).trans k33; have hb04 := hb03.trans (hb4.mono hb03.size); have hF34 := hF3.below hb4)
  clear k2 k3 k23 k33
  go_wp2_with (go_at_call 18; refine (hhd.out _ (hB.below hb04 (Nat.le_refl _))).mono ?_; rintro e w5 ⟨v5, rfl, ho5, hb5⟩; have k35 := (hb5.cell (p := ⟨w.heap.size, 1, none⟩) (World.block_lt_of_cell? _ _ k34)).trans k34; have hb05 := hb04.trans (hb5.mono hb04.size); have hF35 := hF34.below hb5; have hF45 := hF4.below hb5)
  clear k24 k34 hF3 hF4 hF34
  go_wp2_with (go_at_call 19; refine (hrhd.out _ (hB.below hb05 (Nat.le_refl _))).mono ?_; rintro e w6 ⟨v6, rfl, ho6, hb6⟩; have hb06 := hb05.trans (hb6.mono hb05.size); have hF36 := hF35.below hb6; have hF46 := hF45.below hb6; have ho56 := own_below ho5 hb6)
  clear k35 hF35 hF45 ho5
  obtain ⟨a5, c5, rfl, hB5⟩ := Bts.of_own ho56 (by omega)
  obtain ⟨a6, c6, rfl, hB6⟩ := Bts.of_own ho6 (by omega)
  obtain ⟨q3, r3, e3, R3⟩ := hF36.rl (fun x hx => by have := hmost x hx; omega)
  cases e3
  obtain ⟨q4, r4, e4, R4⟩ := hF46.rl (fun x hx => by have := hmost x hx; omega)
  cases e4
  have hfr := Lib.hid (frames_any _ _ _ _ _ _ _ _ w6 R3 R4)
  have hsm := Lib.hid (fun W (hW : Below w6.heap.size w6 W) => same_any _ _ _ _ _ _ _ _ W (hB5.below hW (Nat.le_refl _)) (hB6.below hW (Nat.le_refl _)))
  clear ho56 ho6 hF36 hF46 R3 R4 hB5 hB6 hb2 hb3 hb4 hb5 hb6 hcut hrcut hhd hrhd hmost hbody hB
  go_wp2_with (first | (go_at_call 20; refine (hfr.out).mono ?_; rintro e w7 ⟨rfl, hb7⟩; have hb07 := hb06.trans (hb7.mono hb06.size)) | (go_at_call 16; refine (hsm.out _ hb7).mono ?_; rintro e w8 ⟨rfl, hb8⟩; have hb08 := hb07.trans (hb8.mono hb07.size)))
  go_ret
  exact ⟨by simp, hb08⟩
end Go.Proofs.Ytglmlhbchfgliaa
