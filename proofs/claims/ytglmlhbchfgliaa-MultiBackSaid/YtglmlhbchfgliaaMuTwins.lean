/-
  MultiTwins: the walk. No conditions.
-/
import Derived.Test.YtglmlhbchfgliaaMuTwin
namespace Go.Proofs.Ytglmlhbchfgliaa
open Go.RowKit Go.Maps
theorem kind_bit {k : Nat} (hk : k < 256) : bits .and .u8 (k : Int) 1 = ((k &&& 1 : Nat) : Int) := u8_and _ _ (by omega) (by omega) (by omega) (by omega)
set_option maxRecDepth 100000 in
/-- too many deeds -/
theorem twins_big {w : World} (links kind : Int) (a : Option Addr) (n c : Nat) (hn : 100 < n) :
    Calls Try.prog 11 #[.int .i64 links, .int .u8 kind, .slice a n c] w fun e w' => e = .returned (.bool true) ∧ Below w.heap.size w w' := by
  have hnI : (100 : Int) < (n : Int) := by omega
  go_enter Try.func11, Try.ntmps11
  go_wp2_with (go_at_call 12; refine (awake_any w).mono ?_; rintro e w1 ⟨rfl, hb1⟩)
  go_ret
  exact ⟨rfl, hb1⟩
set_option maxRecDepth 100000 in
/-- no such number of links -/
theorem twins_no {w : World} (links : Int) (k : Nat) (a : Option Addr) (n c : Nat) (hn : n ≤ 100) (hl : links < 1 ∨ 16 < links) (hk : k < 256) :
    Calls Try.prog 11 #[.int .i64 links, .int .u8 (k : Nat), .slice a n c] w fun e w' => e = .returned (.bool true) ∧ Below w.heap.size w w' := by
  have hnI : (n : Int) ≤ 100 := by omega
  have hkb := kind_bit hk
  have hnew := fun W y => new_no (w := W) links 100 y (by omega)
  generalize k &&& 1 = z at hkb
  generalize hzy : ((z : Int) == 1) = y
  replace hnew := Lib.hid hnew
  clear hl
  go_enter Try.func11, Try.ntmps11
  go_wp2_with (first | (go_at_call 12; refine (awake_any w).mono ?_; rintro e w1 ⟨rfl, hb1⟩) | (go_at_call 14; refine (hnew.out _ _).mono ?_; rintro e w' ⟨rfl, rfl⟩))
  go_ret
  exact ⟨rfl, hb1⟩
set_option maxRecDepth 100000 in
set_option maxHeartbeats 1000000 in
theorem twins_in {w : World} {a : Option Addr} {n c : Nat} {f : Nat → DV} (links k : Nat) (h : Deeds w a n c f) (hn : n ≤ 100) (hl : 1 ≤ links ∧ links ≤ 16) (hk : k < 256) :
    Calls Try.prog 11 #[.int .i64 (links : Nat), .int .u8 (k : Nat), .slice a n c] w fun e w' => e = .returned (.bool true) ∧ Below w.heap.size w w' := by
  have hnI : (n : Int) ≤ 100 := by omega
  have hkb := kind_bit hk
  generalize k &&& 1 = z at hkb
  generalize hzy : ((z : Int) == 1) = y
  have hnew := fun W => new_any (w := W) links 100 y hl.1 hl.2 (by decide) (by decide)
  replace hnew := Lib.hid hnew
  have hrest := newJ_rest links 100 y hl.1 hl.2
  replace hrest := Lib.hid hrest
  clear hl
  go_enter Try.func11, Try.ntmps11
  go_wp2_with (first | (go_at_call 12; refine (awake_any w).mono ?_; rintro e w1 ⟨rfl, hb1⟩) | (go_at_call 14; (with_reducible show Calls _ _ _ w1 _); refine (hnew.out w1).mono ?_; rintro e w2 ⟨vl, rfl, hJ, hb2⟩) | (go_at_call 14; (with_reducible show Calls _ _ _ w2 _); refine (hnew.out w2).mono ?_; rintro e w3 ⟨vl', rfl, hJ', hb3⟩))
  have hJ0 := hJ
  have hJ := hJ.below hb3
  have hb12 := hb1.trans (hb2.mono hb1.size)
  have hb13 := hb12.trans (hb3.mono hb12.size)
  have hd : ∀ k, JFoot (w1.heap.size + 1) w1.heap.size vl k → ¬ JFoot (w2.heap.size + 1) w2.heap.size vl' k := fun k h1 h2 => by
    have a1 := hJ0.foot_lt h1
    have a2 := hJ'.foot h2
    omega
  clear hnew
  go_loopw [11, 12] (fun v11 v12 wr => ∃ (i : Nat) (N : Int) (s : JS), i ≤ n ∧ v12 = .int .i64 i ∧ v11 = .int .i64 N ∧ (-((i : Int) * 1073741824) ≤ N ∧ N ≤ (i : Int) * 1073741824) ∧ Jo wr w1.heap.size (w1.heap.size + 1) w1.heap.size vl s ∧ Jo wr w2.heap.size (w2.heap.size + 1) w2.heap.size vl' s ∧
    Hid (Rest s) ∧ Hid (s.short = y) ∧ Hid (s.most = 100) ∧ Below w.heap.size w wr) (fun _ v12 _ => n - (intOf v12).toNat)
  case atStart => exact ⟨0, 0, _, Nat.zero_le _, rfl, rfl, ⟨by omega, by omega⟩, hJ, hJ', hrest, Lib.hid rfl, Lib.hid rfl, hb13⟩
  case round =>
    obtain ⟨i, N, s, hi, rfl, rfl, ⟨hN1, hN2⟩, hA, hA', hrs, hsy, hsm, hbr⟩ := hrel
    by_cases hlt : i < n
    · have hltI : (i : Int) < (n : Int) := by omega
      have hms : n - (intOf (.int .i64 ((i : Int) + 1))).toNat < n - (intOf (.int .i64 (i : Int))).toNat := by simp [intOf]; omega
      replace hms := Lib.hid hms
      obtain ⟨g, o, rfl, c0, c1, c2, c3, c4, c5⟩ := h.at_ hbr hlt
      have hrow := (h.below hbr).row i hlt
      have hrng := h.rng i hlt
      have hcap := h.cap
      have hmost := h.most
      generalize f i = d at c0 c1 c2 c3 c4 c5 hrow hrng
      have hrl := hrow.le
      by_cases hbn : 100 < d.bn
      · have hbnI : (100 : Int) < (d.bn : Int) := by omega
        go_wp2_with fail
        go_ret
        exact ⟨rfl, below_alloc hbr _ (Nat.le_refl _)⟩
      · have hbnI : (d.bn : Int) ≤ 100 := by omega
        by_cases hn1 : 1073741824 < d.n
        · go_wp2_with fail
          go_ret
          exact ⟨rfl, below_alloc hbr _ (Nat.le_refl _)⟩
        · have hn1 : d.n ≤ 1073741824 := by omega
          by_cases hn2 : d.n < -1073741824
          · go_wp2_with fail
            go_ret
            exact ⟨rfl, below_alloc hbr _ (Nat.le_refl _)⟩
          · have hn2 : -1073741824 ≤ d.n := by omega
            obtain ⟨N2, hN⟩ : ∃ N2, N + d.n = N2 := ⟨_, rfl⟩
            have hNw : wrap64 N2 = N2 := wrap64_in _ (by omega)
            have hNb : -1000000000000 ≤ N2 ∧ N2 ≤ 1000000000000 := by omega
            have hNc : -(((i + 1 : Nat) : Int) * 1073741824) ≤ N2 ∧ N2 ≤ ((i + 1 : Nat) : Int) * 1073741824 := by omega
            replace hNc := Lib.hid hNc
            have hBd := Bts.of_row hrow d.bn (Nat.le_refl _) (by omega)
            have hW4 := below_alloc (Below.refl wr.heap.size wr) (.cells #[.int .i64 d.d, .int .i64 d.n, .bool d.f1, .bool d.f2, .bool d.raw, .slice d.ba d.bn d.bc] 56) (Nat.le_refl _)
            have hlh := fun W (hW : Below wr.heap.size wr W) => lhead_any (w := W) (n := N2) (x := d.d) (y := d.n) (f1 := d.f1) (f2 := d.f2) (raw := d.raw) y hNb (hBd.below hW (Nat.le_refl _)) (by omega)
            have hA4 := hA.below hW4
            have hA4' := hA'.below hW4
            have kd := Blk.new wr #[.int .i64 d.d, .int .i64 d.n, .bool d.f1, .bool d.f2, .bool d.raw, .slice d.ba d.bn d.bc] 56
            have hw4 := hbr.trans (hW4.mono hbr.size)
            replace hlh := Lib.hid hlh
            clear hN1 hN2 hNb hrow hrng hrl hA hA' hBd hcap hmost
            go_wp2_with (first | (go_at_call 25; refine (hlh.out _ hW4).mono ?_; rintro e w5 ⟨v5, l5, rfl, ho5, hl5, hb5⟩; obtain ⟨a5, c5, e5, B5⟩ := Bts.of_own ho5 (by omega); subst e5; have hA5 := hA4.below hb5; have hA5' := hA4'.below hb5; have kd5 := kd.below hb5 kd.lt; have g5 := kd5.cell 0) | (go_at_call 15; (with_reducible show Calls _ _ _ w5 _); refine (add_any d.d hA5 hrs.out B5 (by omega)).mono ?_; rintro e w6 ⟨v6, L6, e6, t6, rfl, hR6, hA6, hF6, hb6⟩; have hA6' := hA5'.beside hA5 (fun k h1 h2 => hd k h2 h1) hb6; have ho6 := own_jo ho5 hA5 hb6; obtain ⟨a6, c6, e6', B6⟩ := Bts.of_own ho6 (by omega); cases e6'; have kd6 := kd5.jo hA5 (by decide) (by decide) hb6; have g6 := kd6.cell 0) | (go_at_call 15; (with_reducible show Calls _ _ _ w6 _); refine (add_any d.d hA6' hrs.out B6 (by omega)).mono ?_; rintro e w7 ⟨v7, L7, e7, t7, rfl, hR7, hA7', hF7, hb7⟩; obtain ⟨rfl, rfl, rfl⟩ := hR6.one hR7; have hA7 := hA6.beside hA6' hd hb7; have hF67 := hF6.jo hA6' hb7; have ho7 := own_jo ho6 hA6' hb7; obtain ⟨a7, c7, e7', B7⟩ := Bts.of_own ho7 (by omega); cases e7'; have kd7 := kd6.jo hA6' (by decide) (by decide) hb7))
            obtain ⟨a6, q6, rfl, R6⟩ := hF67.rl (fun x hx => by have h1 := hR6.most x hx; rw [hsm.out] at h1; omega)
            obtain ⟨a7', q7', rfl, R7⟩ := hF7.rl (fun x hx => by have h1 := hR6.most x hx; rw [hsm.out] at h1; omega)
            have hfr := frames_any _ _ _ _ _ _ _ _ w7 R6 R7
            rw [decide_eq_true rfl] at hfr
            replace hfr := Lib.hid hfr
            have hres := hR6.rest hrs.out (by omega)
            have hrs6 := Lib.hid hres.1
            have hsy6 := Lib.hid (hres.2.1.trans hsy.out)
            have hsm6 := Lib.hid (hres.2.2.1.trans hsm.out)
            have hw5 := hw4.trans (hb5.mono hw4.size)
            have hw6 := hA5.under hw5 hb1.size hb6
            have hw7 := hA6'.under hw6 hb12.size hb7
            clear hres R6 R7 hF67 hF7 hF6 kd kd5 kd6 g5 g6 B5 B6 B7 hlh
            by_cases he : e6 = 0
            · have heI : (((e6 : Nat) : Int) != 0) = false := by rw [he]; rfl
              have heJ : (((e6 : Nat) : Int) == 0) = true := by rw [he]; rfl
              have hag := Lib.hid ((he ▸ hR6).again hrs.out (by omega))
              replace he := Lib.hid he
              clear hR6 hR7
              go_wp2_with (first | (go_at_call 20; refine hfr.out.mono ?_; rintro e w8 ⟨rfl, hb8⟩; have hA8 := hA7.below hb8; have hA8' := hA7'.below hb8; have ho8 := own_below ho7 hb8; obtain ⟨a8, c8, e8', B8⟩ := Bts.of_own ho8 (by omega); cases e8'; have kd8 := (kd7.below hb8 kd7.lt); have g8 := kd8.cell 0) | (go_at_call 22; (with_reducible show Calls _ _ #[.pointer (some ⟨w1.heap.size + 1, 0, none⟩)] w8 _); refine (held_any hA8).mono ?_; rintro e w' ⟨rfl, rfl⟩) | (go_at_call 23; (with_reducible show Calls _ _ #[.pointer (some ⟨w1.heap.size + 1, 0, none⟩)] w8 _); refine (next_any hA8).mono ?_; rintro e w' ⟨rfl, rfl⟩) | (go_at_call 21; (with_reducible show Calls _ _ #[.pointer (some ⟨w1.heap.size + 1, 0, none⟩)] w8 _); refine (lost_any hA8).mono ?_; rintro e w' ⟨rfl, rfl⟩) | (go_at_call 15; (with_reducible show Calls _ _ _ w8 _); refine (add_any d.d hA8 hrs6.out B8 (by omega)).mono ?_; rintro e w9 ⟨v9, L9, e9, t9, rfl, hR9, hA9, hF9, hb9⟩; obtain ⟨rfl, rfl, rfl⟩ := hR9.one hag.out; have hA9' := hA8'.beside hA8 (fun k h1 h2 => hd k h2 h1) hb9; obtain ⟨a9, c9, rfl⟩ := hF9.slice) | (go_at_call 22; (with_reducible show Calls _ _ #[.pointer (some ⟨w1.heap.size + 1, 0, none⟩)] w9 _); refine (held_any hA9).mono ?_; rintro e w' ⟨rfl, rfl⟩) | (go_at_call 23; (with_reducible show Calls _ _ #[.pointer (some ⟨w1.heap.size + 1, 0, none⟩)] w9 _); refine (next_any hA9).mono ?_; rintro e w' ⟨rfl, rfl⟩) | (go_at_call 21; (with_reducible show Calls _ _ #[.pointer (some ⟨w1.heap.size + 1, 0, none⟩)] w9 _); refine (lost_any hA9).mono ?_; rintro e w' ⟨rfl, rfl⟩))
              go_roundw
              case rel =>
                have hw8 := hw7.trans (hb8.mono hw7.size)
                exact ⟨i + 1, N2, _, by omega, rfl, rfl, hNc.out, hA9, hA9', hrs6, hsy6, hsm6, hA8.under hw8 hb1.size hb9⟩
              case measure => exact hms.out
            · have heI : (((e6 : Nat) : Int) != 0) = true := by rw [bne_cast]; simpa using he
              have heJ : (((e6 : Nat) : Int) == 0) = false := by rw [beq_eq_false_iff_ne]; omega
              replace he := Lib.hid he
              clear hR6 hR7
              go_wp2_with (first | (go_at_call 20; refine hfr.out.mono ?_; rintro e w8 ⟨rfl, hb8⟩; have hA8 := hA7.below hb8; have hA8' := hA7'.below hb8; have ho8 := own_below ho7 hb8; obtain ⟨a8, c8, e8', B8⟩ := Bts.of_own ho8 (by omega); cases e8'; have kd8 := (kd7.below hb8 kd7.lt); have g8 := kd8.cell 0) | (go_at_call 22; (with_reducible show Calls _ _ #[.pointer (some ⟨w1.heap.size + 1, 0, none⟩)] w8 _); refine (held_any hA8).mono ?_; rintro e w' ⟨rfl, rfl⟩) | (go_at_call 23; (with_reducible show Calls _ _ #[.pointer (some ⟨w1.heap.size + 1, 0, none⟩)] w8 _); refine (next_any hA8).mono ?_; rintro e w' ⟨rfl, rfl⟩) | (go_at_call 21; (with_reducible show Calls _ _ #[.pointer (some ⟨w1.heap.size + 1, 0, none⟩)] w8 _); refine (lost_any hA8).mono ?_; rintro e w' ⟨rfl, rfl⟩) | (go_at_call 22; (with_reducible show Calls _ _ #[.pointer (some ⟨w2.heap.size + 1, 0, none⟩)] w8 _); refine (held_any hA8').mono ?_; rintro e w' ⟨rfl, rfl⟩) | (go_at_call 23; (with_reducible show Calls _ _ #[.pointer (some ⟨w2.heap.size + 1, 0, none⟩)] w8 _); refine (next_any hA8').mono ?_; rintro e w' ⟨rfl, rfl⟩))
              go_roundw
              case rel => exact ⟨i + 1, N2, _, by omega, rfl, rfl, hNc.out, hA8, hA8', hrs6, hsy6, hsm6, hw7.trans (hb8.mono hw7.size)⟩
              case measure => exact hms.out
    · have hie : i = n := by omega
      replace hie := Lib.hid hie
      go_wp2_with fail
      go_ret
      exact ⟨rfl, hbr⟩
end Go.Proofs.Ytglmlhbchfgliaa
