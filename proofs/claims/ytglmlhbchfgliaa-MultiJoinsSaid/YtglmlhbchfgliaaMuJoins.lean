/-
  MultiJoins: the walk. No conditions.
-/
import Derived.Test.YtglmlhbchfgliaaMuRAw
import Derived.Test.YtglmlhbchfgliaaMuTwins
namespace Go.Proofs.Ytglmlhbchfgliaa
open Go.RowKit Go.Maps
section
variable {w w' : World} {B B' b b' bm : Nat} {vl vh vl' : Value} {s s' : JS}
/-- the program's joiner is written: the reference's stays -/
theorem RJ.beside (h : RJ w B b vl vh s) (h' : Jo w B' b' bm vl' s') (hd : ∀ k, vl.ownBlock = some k → vl'.ownBlock = some k → False) (hb : ButOf (JFoot b' bm vl') w w') : RJ w' B b vl vh s := by
  obtain ⟨D, hv, m1, m2, m3⟩ := h'.map
  obtain ⟨vs, e1, _⟩ := h.held
  have hne : ∀ {E sz n B'' : Nat} {v : Value} {ys : List Value}, w.ownsRow B'' E sz v n ys → E ≠ 71 → E ≠ 3 → ∀ k, v.ownBlock = some k → ¬ JFoot b' bm vl' k := fun hv hE hE2 k hk e => by
    rcases e with e | e | e
    · exact own_blk_ne hv h'.blk hE (e ▸ hk)
    · exact ownsMap_own m1 hv (e ▸ hk)
    · exact own_own_ne hv h'.row hE2 hk e
  refine h.but hb (fun e => ?_) (fun k hk e => ?_) (hne e1 (by decide) (by decide)) (fun hv => hne hv (by decide) (by decide))
  · rcases e with e | e | e
    · have h1 := h.blk
      have h2 := h'.blk
      unfold Blk at h1 h2
      rw [e, h2] at h1
      injection h1 with h3
      injection h3 with _ h4
      exact absurd h4 (by decide)
    · exact ownsMap_blk m1 h.blk e
    · exact own_blk_ne h'.row h.blk (by decide) e
  · rcases e with e | e | e
    · exact own_blk_ne h.row h'.blk (by decide) (e ▸ hk)
    · exact ownsMap_own m1 h.row (e ▸ hk)
    · exact hd k hk e
theorem Jo.rbeside (h' : Jo w B' b' bm vl' s') (h : RJ w B b vl vh s) (hd : ∀ k, vl.ownBlock = some k → vl'.ownBlock = some k → False) (hb : ButOf (RFoot b vl vh) w w') : Jo w' B' b' bm vl' s' := by
  obtain ⟨D, hv, m1, m2, m3⟩ := h'.map
  obtain ⟨vs, e1, _⟩ := h.held
  have hne : ∀ {E sz n B'' : Nat} {v : Value} {ys : List Value}, w.ownsRow B'' E sz v n ys → E ≠ 63 → E ≠ 3 → E ≠ 82 → ∀ k, v.ownBlock = some k → ¬ RFoot b vl vh k := fun hv hE hE2 hE3 k hk e => by
    rcases e with e | e | e
    · exact own_blk_ne hv h.blk hE (e ▸ hk)
    · exact own_own_ne hv h.row hE2 hk e
    · exact own_own_ne hv e1 hE3 hk e
  refine h'.but hb (fun e => ?_) (fun e => ?_) (fun k hk e => ?_) (fun hv => hne hv (by decide) (by decide) (by decide))
  · rcases e with e | e | e
    · have h1 := h.blk
      have h2 := h'.blk
      unfold Blk at h1 h2
      rw [← e, h2] at h1
      injection h1 with h3
      injection h3 with _ h4
      exact absurd h4 (by decide)
    · exact own_blk_ne h.row h'.blk (by decide) e
    · exact own_blk_ne e1 h'.blk (by decide) e
  · rcases e with e | e | e
    · exact ownsMap_blk m1 h.blk e.symm
    · exact ownsMap_own m1 h.row e
    · exact ownsMap_own m1 e1 e
  · rcases e with e | e | e
    · exact own_blk_ne h'.row h.blk (by decide) (e ▸ hk)
    · exact hd k e hk
    · exact own_own_ne h'.row e1 (by decide) hk e
/-- what the reference's joiner that the call made does is not seen from ahead of it -/
theorem RJ.under {w0 : World} (h : RJ w B b vl vh s) (h0 : Below w0.heap.size w0 w) (hB : w0.heap.size ≤ B) (hb : ButOf (RFoot b vl vh) w w') : Below w0.heap.size w0 w' := by
  obtain ⟨vs, e1, _⟩ := h.held
  refine below_frame h0 hb (fun k _ hk => Nat.le_trans hB ?_) h0.size
  rcases hk with e | e | e
  · rw [e]; exact h.base
  · exact (own_ownlt h.row e).1
  · exact (e1.lt k e).1
/-- the number that is waited for, how many are held, how many were lost -/
theorem RJ.cells3 (h : RJ w B b vl vh s) (hb : Below w.heap.size w w') : w'.cell? ⟨b, 2, none⟩ = some (.int .i64 (s.next : Nat)) ∧ w'.cell? ⟨b, 4, none⟩ = some vh ∧ w'.cell? ⟨b, 5, none⟩ = some (.int .i64 (wrap64 (s.lost : Nat))) :=
  ⟨(h.below hb).c2, (h.below hb).c4, (h.below hb).c5⟩
end
theorem blk_rj {w w' : World} {B b bd : Nat} {vl vh : Value} {s : JS} {cs : Array Value} {T : TypeId} (h : Blk w bd cs T) (hJ : RJ w B b vl vh s) (h1 : T ≠ 63) (h2 : T ≠ 3) (h3 : T ≠ 82) (hb : ButOf (RFoot b vl vh) w w') : Blk w' bd cs T := by
  obtain ⟨vs, e1, _⟩ := hJ.held
  refine h.but hb (fun e => ?_)
  rcases e with e | e | e
  · have k1 := h
    have k2 := hJ.blk
    unfold Blk at k1 k2
    rw [e, k2] at k1
    injection k1 with h3
    injection h3 with _ h4
    exact h1 h4.symm
  · exact own_blk_ne hJ.row h (fun e => h2 e.symm) e
  · exact own_blk_ne e1 h (fun e => h3 e.symm) e
set_option maxRecDepth 100000 in
/-- too many deeds -/
theorem joins_big {w : World} (links kind : Int) (a : Option Addr) (n c : Nat) (hn : 150 < n) :
    Calls Try.prog 9 #[.int .i64 links, .int .u8 kind, .slice a n c] w fun e w' => e = .returned (.bool true) ∧ Below w.heap.size w w' := by
  have hnI : (150 : Int) < (n : Int) := by omega
  go_enter Try.func9, Try.ntmps9
  go_wp2_with (go_at_call 12; refine (awake_any w).mono ?_; rintro e w1 ⟨rfl, hb1⟩)
  go_ret
  exact ⟨rfl, hb1⟩
set_option maxRecDepth 100000 in
/-- no such number of links -/
theorem joins_no {w : World} (links : Int) (k : Nat) (a : Option Addr) (n c : Nat) (hn : n ≤ 150) (hl : links < 1 ∨ 16 < links) (hk : k < 256) :
    Calls Try.prog 9 #[.int .i64 links, .int .u8 (k : Nat), .slice a n c] w fun e w' => e = .returned (.bool true) ∧ Below w.heap.size w w' := by
  have hnI : (n : Int) ≤ 150 := by omega
  have hkb := kind_bit hk
  have hMI : (1 : Int) + (k : Int) * 4 = ((1 + k * 4 : Nat) : Int) := by omega
  have hM4 : 1 ≤ 1 + k * 4 ∧ 1 + k * 4 ≤ 1021 := by omega
  have hkI : (k : Int) ≤ 255 := by omega
  generalize k &&& 1 = z at hkb
  generalize hzy : ((z : Int) == 1) = y
  have hnew := fun W (m : Nat) y => new_no (w := W) links (m : Int) y (by omega)
  have hrnew := fun W (m : Nat) y => rnew_no (w := W) links (m : Int) y (by omega)
  generalize 1 + k * 4 = M at hMI hM4
  replace hnew := Lib.hid hnew
  replace hrnew := Lib.hid hrnew
  clear hl
  go_enter Try.func9, Try.ntmps9
  go_wp2_with (first | (go_at_call 12; refine (awake_any w).mono ?_; rintro e w1 ⟨rfl, hb1⟩) | (go_at_call 14; refine (hnew.out _ _ _).mono ?_; rintro e w' ⟨rfl, rfl⟩) | (go_at_call 24; refine (hrnew.out _ _ _).mono ?_; rintro e w' ⟨rfl, rfl⟩))
  go_ret
  exact ⟨rfl, hb1⟩
set_option maxRecDepth 100000 in
set_option maxHeartbeats 4000000 in
theorem joins_in {w : World} {a : Option Addr} {n c : Nat} {f : Nat → DV} (links k : Nat) (h : Deeds w a n c f) (hn : n ≤ 150) (hl : 1 ≤ links ∧ links ≤ 16) (hk : k < 256) :
    Calls Try.prog 9 #[.int .i64 (links : Nat), .int .u8 (k : Nat), .slice a n c] w fun e w' => e = .returned (.bool true) ∧ Below w.heap.size w w' := by
  have hnI : (n : Int) ≤ 150 := by omega
  have hkb := kind_bit hk
  have hMI : (1 : Int) + (k : Int) * 4 = ((1 + k * 4 : Nat) : Int) := by omega
  have hM4 : 1 ≤ 1 + k * 4 ∧ 1 + k * 4 ≤ 1021 := by omega
  have hkI : (k : Int) ≤ 255 := by omega
  generalize k &&& 1 = z at hkb
  generalize hzy : ((z : Int) == 1) = y
  generalize 1 + k * 4 = M at hMI hM4
  have hnew := fun W => new_any (w := W) links M y hl.1 hl.2 hM4.1 (by omega)
  have hrnew := fun W => rnew_any (w := W) links M y hl.1 hl.2 hM4.1 (by omega)
  replace hnew := Lib.hid hnew
  replace hrnew := Lib.hid hrnew
  have hrest := newJ_rest links M y hl.1 hl.2
  replace hrest := Lib.hid hrest
  clear hl
  go_enter Try.func9, Try.ntmps9
  go_wp2_with (first | (go_at_call 12; refine (awake_any w).mono ?_; rintro e w1 ⟨rfl, hb1⟩) | (go_at_call 14; refine (hnew.out w1).mono ?_; rintro e w2 ⟨vl, rfl, hJ, hb2⟩) | (go_at_call 24; refine (hrnew.out w2).mono ?_; rintro e w3 ⟨vl', rfl, hJ', hb3⟩))
  have hJ0 := hJ
  have hJ := hJ.below hb3
  have hb12 := hb1.trans (hb2.mono hb1.size)
  have hb13 := hb12.trans (hb3.mono hb12.size)
  have hd : ∀ k, vl'.ownBlock = some k → vl.ownBlock = some k → False := fun k h1 h2 => by
    have a1 := (own_ownlt hJ0.row h2).2
    have a2 := (own_ownlt hJ'.row h1).1
    omega
  clear hnew hrnew
  go_loopw [12, 13] (fun v11 v12 wr => ∃ (i : Nat) (N : Int) (s : JS) (vh : Value), i ≤ n ∧ v12 = .int .i64 i ∧ v11 = .int .i64 N ∧ (-((i : Int) * 1073741824) ≤ N ∧ N ≤ (i : Int) * 1073741824) ∧ Jo wr w1.heap.size (w1.heap.size + 1) w1.heap.size vl s ∧ RJ wr w2.heap.size w2.heap.size vl' vh s ∧
    Hid (Rest s) ∧ Hid (s.short = y) ∧ Hid (s.most = M) ∧ Below w.heap.size w wr) (fun _ v12 _ => n - (intOf v12).toNat)
  case atStart => exact ⟨0, 0, _, _, Nat.zero_le _, rfl, rfl, ⟨by omega, by omega⟩, hJ, hJ', hrest, Lib.hid rfl, Lib.hid rfl, hb13⟩
  case round =>
    obtain ⟨i, N, s, vh, hi, rfl, rfl, ⟨hN1, hN2⟩, hA, hQ, hrs, hsy, hsm, hbr⟩ := hrel
    by_cases hlt : i < n
    · have hltI : (i : Int) < (n : Int) := by omega
      have hms : n - (intOf (.int .i64 ((i : Int) + 1))).toNat < n - (intOf (.int .i64 (i : Int))).toNat := by simp [intOf]; omega
      replace hms := Lib.hid hms
      obtain ⟨g, o, rfl, c0, c1, c2, c3, c4, c5⟩ := h.at_ hbr hlt
      have hrow0 := h.row i hlt
      have hrng := h.rng i hlt
      have hcap := h.cap
      have hmost := h.most
      generalize f i = d at c0 c1 c2 c3 c4 c5 hrow0 hrng
      have hrl := hrow0.le
      by_cases hbn : 200 < d.bn
      · have hbnI : (200 : Int) < (d.bn : Int) := by omega
        go_wp2_with fail
        go_ret
        exact ⟨rfl, below_alloc hbr _ (Nat.le_refl _)⟩
      · have hbnI : (d.bn : Int) ≤ 200 := by omega
        by_cases hn1 : 1073741824 < d.n
        · go_wp2_with fail
          go_ret
          exact ⟨rfl, below_alloc hbr _ (Nat.le_refl _)⟩
        · have hn1 : d.n ≤ 1073741824 := by omega
          by_cases hn2 : d.n < -1073741824
          · go_wp2_with fail
            go_ret
            exact ⟨rfl, below_alloc hbr _ (Nat.le_refl _)⟩
          · have hn2 : -1073741824 ≤ d.n := by omega
            obtain ⟨N2, hN⟩ : ∃ N2, N + d.n = N2 := ⟨_, rfl⟩
            have hNw : wrap64 N2 = N2 := wrap64_in _ (by omega)
            have hNb : -1000000000000 ≤ N2 ∧ N2 ≤ 1000000000000 := by omega
            have hW4 := below_alloc (Below.refl wr.heap.size wr) (.cells #[.int .i64 d.d, .int .i64 d.n, .bool d.f1, .bool d.f2, .bool d.raw, .slice d.ba d.bn d.bc] 56) (Nat.le_refl _)
            have hBd := Bts.of_row hrow0 d.bn (Nat.le_refl _) (by omega)
            have hBl : (toBytes (d.zs.take d.bn)).length ≤ 100000 := by rw [hBd.len]; omega
            have hlh := fun W (hW : Below wr.heap.size wr W) => lhead_any (w := W) (n := N2) (x := d.d) (y := d.n) (f1 := d.f1) (f2 := d.f2) (raw := d.raw) y hNb ((hBd.below hbr (Nat.le_refl _)).below hW (Nat.le_refl _)) (by omega)
            have hA4 := hA.below hW4
            have hQ4 := hQ.below hW4
            have kd := Blk.new wr #[.int .i64 d.d, .int .i64 d.n, .bool d.f1, .bool d.f2, .bool d.raw, .slice d.ba d.bn d.bc] 56
            have hw4 := hbr.trans (hW4.mono hbr.size)
            replace hlh := Lib.hid hlh
            cases hraw : d.raw with
            | false =>
              have hNc : -(((i + 1 : Nat) : Int) * 1073741824) ≤ N2 ∧ N2 ≤ ((i + 1 : Nat) : Int) * 1073741824 := by omega
              replace hNc := Lib.hid hNc
              rw [hraw] at c4 kd hA4 hQ4 hw4 hW4 hlh
              replace hraw := Lib.hid hraw
              clear hN1 hN2 hNb hrow0 hrng hrl hA hQ hBd hcap hmost hBl
              have h1004 := Lib.hid (fun m (hm : m ≤ 1004) => And.intro (show m ≤ 100000 by omega) (Lib.hid (show m ≤ 140737488355328 by omega)))
              go_wp2_with (first | (go_at_call 25; refine (hlh.out _ hW4).mono ?_; rintro e w5 ⟨v5, l5, rfl, ho5, hl5', hb5⟩; obtain ⟨hl5, hl5h⟩ := h1004.out _ hl5'; obtain ⟨a5, c5, e5, B5⟩ := Bts.of_own ho5 hl5h.out; subst e5; have hA5 := hA4.below hb5; have hQ5 := hQ4.below hb5; have kd5 := kd.below hb5 kd.lt; have g5 := kd5.cell 0) | (go_at_call 15; refine (add_any d.d hA5 hrs.out B5 hl5).mono ?_; rintro e w6 ⟨v6, L6, e6, t6, rfl, hR6, hA6, hF6, hb6⟩; have hQ6 := hQ5.beside hA5 hd hb6; have ho6 := own_jo ho5 hA5 hb6; obtain ⟨a6, c6, e6', B6⟩ := Bts.of_own ho6 hl5h.out; cases e6'; have kd6 := kd5.jo hA5 (by decide) (by decide) hb6; have g6 := kd6.cell 0) | (go_at_call 26; refine (radd_any d.d hQ6 hrs.out B6 hl5).mono ?_; rintro e w7 ⟨v7, L7, e7, t7, vh7, rfl, hR7, hQ7, hF7, hb7, hn7⟩; obtain ⟨rfl, rfl, rfl⟩ := hR6.one hR7; have hA7 := hA6.rbeside hQ6 hd hb7; have hF67 := hF6.rf hQ6 hb7))
              have hw5 := hw4.trans (hb5.mono hw4.size)
              have hw6 := hA5.under hw5 hb1.size hb6
              have hw7 := hQ6.under hw6 hb12.size hb7
              obtain ⟨a6x, q6, rfl, R6⟩ := hF67.rl (fun x hx => by have h1 := hR6.most x hx; rw [hsm.out] at h1; omega)
              obtain ⟨a7', q7', rfl, R7⟩ := hF7.rl (fun x hx => by have h1 := hR6.most x hx; rw [hsm.out] at h1; omega)
              have hfr := fun W hW => frames_any _ _ _ _ _ _ _ _ W (R6.below hW) (R7.below hW)
              simp only at hfr
              replace hfr := Lib.hid hfr
              have hres := hR6.rest hrs.out hl5
              have hrs6 := Lib.hid hres.1
              have hsy6 := Lib.hid (hres.2.1.trans hsy.out)
              have hsm6 := Lib.hid (hres.2.2.1.trans hsm.out)
              have h64I : ¬ ((64 : Int) < (t6.held.length : Int)) := by have := hres.1.few; omega
              obtain ⟨ah, chh, rfl⟩ := hQ7.slice
              have hS := Lib.hid (fun W (hW : Below w7.heap.size w7 W) => And.intro hW (hQ7.cells3 hW))
              clear hres R6 R7 hF67 hF7 hF6 kd5 kd6 g5 g6 B5 B6 hR6 hR7 hA5 hA6 hQ5 hQ6 hb6 hb7
              clear hlh ho5 ho6 hA4 hQ4 kd hb5
              refine wp_region_held_drew (S := fun W => Below w7.heap.size w7 W ∧ W.cell? ⟨w2.heap.size, 2, none⟩ = some (.int .i64 (t6.next : Nat)) ∧ W.cell? ⟨w2.heap.size, 4, none⟩ = some (.slice ah t6.held.length chh) ∧ W.cell? ⟨w2.heap.size, 5, none⟩ = some (.int .i64 (wrap64 (t6.lost : Nat)))) (by kernel_rfl) (hS.out _ (Below.refl _ _).drew) (fun hHeld => ?_)
              refine held_take (i := 0) (v := ?_) rfl (by kernel_rfl) (by kernel_rfl) (by kernel_rfl) (fun _ _ _ h => h) (Or.inl ⟨by kernel_rfl, ?_⟩) (by assumption) ?_
              rotate_left
              · intro w hSw
                (try dsimp only at hSw)
                go_split_ands
                go_simp
                all_goals with_reducible rfl
              simp only [List.setIfInBounds_toArray, List.set_cons_zero, List.set_cons_succ]
              refine held_take (i := 1) (v := ?_) rfl (by kernel_rfl) (by kernel_rfl) (by kernel_rfl) (fun _ _ _ h => h) (Or.inl ⟨by kernel_rfl, ?_⟩) (by assumption) ?_
              rotate_left
              · intro w hSw
                (try dsimp only at hSw)
                go_split_ands
                go_simp
                all_goals with_reducible rfl
              simp only [List.setIfInBounds_toArray, List.set_cons_zero, List.set_cons_succ]
              refine held_take (i := 2) (v := ?_) rfl (by kernel_rfl) (by kernel_rfl) (by kernel_rfl) (fun _ _ _ h => h) (Or.inl ⟨by kernel_rfl, ?_⟩) (by assumption) ?_
              rotate_left
              · intro w hSw
                (try dsimp only at hSw)
                go_split_ands
                go_simp
                all_goals with_reducible rfl
              simp only [List.setIfInBounds_toArray, List.set_cons_zero, List.set_cons_succ]
              refine held_take (i := 3) (v := ?_) rfl (by kernel_rfl) (by kernel_rfl) (by kernel_rfl) (fun _ _ _ h => h) (Or.inl ⟨by kernel_rfl, ?_⟩) (by assumption) ?_
              rotate_left
              · intro w hSw
                (try dsimp only at hSw)
                go_split_ands
                go_simp
                all_goals with_reducible rfl
              simp only [List.setIfInBounds_toArray, List.set_cons_zero, List.set_cons_succ]
              refine held_take (i := 4) (v := ?_) rfl (by kernel_rfl) (by kernel_rfl) (by kernel_rfl) (fun _ _ _ h => h) (Or.inl ⟨by kernel_rfl, ?_⟩) (by assumption) ?_
              rotate_left
              · intro w hSw
                (try dsimp only at hSw)
                go_split_ands
                go_simp
                all_goals with_reducible rfl
              simp only [List.setIfInBounds_toArray, List.set_cons_zero, List.set_cons_succ]
              refine held_take (i := 5) (v := ?_) rfl (by kernel_rfl) (by kernel_rfl) (by kernel_rfl) (fun _ _ _ h => h) (Or.inl ⟨by kernel_rfl, ?_⟩) (by assumption) ?_
              rotate_left
              · intro w hSw
                (try dsimp only at hSw)
                go_split_ands
                go_simp
                all_goals with_reducible rfl
              simp only [List.setIfInBounds_toArray, List.set_cons_zero, List.set_cons_succ]
              refine wpAnyH_ready (rs := [6]) (by kernel_rfl) (by simp) ?_
              refine AllReadyH.cons rfl (fun K hK => ?_) AllReadyH.nil
              go_simp
              go_wp2_with (go_at_call 20; refine (hfr.out _ hHeld.1).mono ?_; rintro e w8 ⟨rfl, hb8⟩; have hS8 := hS.out _ (hHeld.1.trans (hb8.mono hHeld.1.size)))
              refine hK.out _ _ ?_ (fun hHeld => ?_)
              · exact hS8
              clear hK K
              refine held_take (i := 7) (v := ?_) rfl (by kernel_rfl) (by kernel_rfl) (by kernel_rfl) (fun _ _ _ h => h) (Or.inl ⟨by kernel_rfl, ?_⟩) (by assumption) ?_
              rotate_left
              · intro w hSw
                (try dsimp only at hSw)
                go_split_ands
                go_simp
                all_goals with_reducible rfl
              simp only [List.setIfInBounds_toArray, List.set_cons_zero, List.set_cons_succ]
              refine held_take (i := 8) (v := ?_) rfl (by kernel_rfl) (by kernel_rfl) (by kernel_rfl) (fun _ _ _ h => h) (Or.inl ⟨by kernel_rfl, ?_⟩) (by assumption) ?_
              rotate_left
              · intro w hSw
                (try dsimp only at hSw)
                go_split_ands
                go_simp
                all_goals with_reducible rfl
              simp only [List.setIfInBounds_toArray, List.set_cons_zero, List.set_cons_succ]
              refine held_take (i := 9) (v := ?_) rfl (by kernel_rfl) (by kernel_rfl) (by kernel_rfl) (fun _ _ _ h => h) (Or.inl ⟨by kernel_rfl, ?_⟩) (by assumption) ?_
              rotate_left
              · intro w hSw
                (try dsimp only at hSw)
                go_split_ands
                go_simp
                all_goals with_reducible rfl
              simp only [List.setIfInBounds_toArray, List.set_cons_zero, List.set_cons_succ]
              refine held_take (i := 10) (v := ?_) rfl (by kernel_rfl) (by kernel_rfl) (by kernel_rfl) (fun _ _ _ h => h) (Or.inl ⟨by kernel_rfl, ?_⟩) (by assumption) ?_
              rotate_left
              · intro w hSw
                (try dsimp only at hSw)
                go_split_ands
                go_simp
                all_goals with_reducible rfl
              simp only [List.setIfInBounds_toArray, List.set_cons_zero, List.set_cons_succ]
              refine held_take (i := 12) (v := ?_) rfl (by kernel_rfl) (by kernel_rfl) (by kernel_rfl) (fun _ _ _ h => h) (Or.inl ⟨by kernel_rfl, ?_⟩) (by assumption) ?_
              rotate_left
              · intro w hSw
                (try dsimp only at hSw)
                go_split_ands
                go_simp
                all_goals with_reducible rfl
              simp only [List.setIfInBounds_toArray, List.set_cons_zero, List.set_cons_succ]
              refine held_take (i := 13) (v := ?_) rfl (by kernel_rfl) (by kernel_rfl) (by kernel_rfl) (fun _ _ _ h => h) (Or.inl ⟨by kernel_rfl, ?_⟩) (by assumption) ?_
              rotate_left
              · intro w hSw
                (try dsimp only at hSw)
                go_split_ands
                go_simp
                all_goals with_reducible rfl
              simp only [List.setIfInBounds_toArray, List.set_cons_zero, List.set_cons_succ]
              refine held_take (i := 14) (v := ?_) rfl (by kernel_rfl) (by kernel_rfl) (by kernel_rfl) (fun _ _ _ h => h) (Or.inl ⟨by kernel_rfl, ?_⟩) (by assumption) ?_
              rotate_left
              · intro w hSw
                (try dsimp only at hSw)
                go_split_ands
                go_simp
                all_goals with_reducible rfl
              simp only [List.setIfInBounds_toArray, List.set_cons_zero, List.set_cons_succ]
              refine held_take (i := 15) (v := ?_) rfl (by kernel_rfl) (by kernel_rfl) (by kernel_rfl) (fun _ _ _ h => h) (Or.inl ⟨by kernel_rfl, ?_⟩) (by assumption) ?_
              rotate_left
              · intro w hSw
                (try dsimp only at hSw)
                go_split_ands
                go_simp
                all_goals with_reducible rfl
              simp only [List.setIfInBounds_toArray, List.set_cons_zero, List.set_cons_succ]
              refine held_take (i := 16) (v := ?_) rfl (by kernel_rfl) (by kernel_rfl) (by kernel_rfl) (fun _ _ _ h => h) (Or.inl ⟨by kernel_rfl, ?_⟩) (by assumption) ?_
              rotate_left
              · intro w hSw
                (try dsimp only at hSw)
                go_split_ands
                go_simp
                all_goals with_reducible rfl
              simp only [List.setIfInBounds_toArray, List.set_cons_zero, List.set_cons_succ]
              refine wpAnyH_ready (rs := [11]) (by kernel_rfl) (by simp) ?_
              refine AllReadyH.cons rfl (fun K hK => ?_) AllReadyH.nil
              go_simp
              go_wp2_with (go_at_call 22; refine (held_any (hA7.below hHeld.1)).mono ?_; rintro e w' ⟨rfl, rfl⟩)
              refine hK.out _ _ ?_ (fun hHeld => ?_)
              · exact hHeld
              clear hK K
              refine held_take (i := 17) (v := ?_) rfl (by kernel_rfl) (by kernel_rfl) (by kernel_rfl) (fun _ _ _ h => h) (Or.inl ⟨by kernel_rfl, ?_⟩) (by assumption) ?_
              rotate_left
              · intro w hSw
                (try dsimp only at hSw)
                go_split_ands
                go_simp
                all_goals with_reducible rfl
              simp only [List.setIfInBounds_toArray, List.set_cons_zero, List.set_cons_succ]
              refine held_take (i := 18) (v := ?_) rfl (by kernel_rfl) (by kernel_rfl) (by kernel_rfl) (fun _ _ _ h => h) (Or.inl ⟨by kernel_rfl, ?_⟩) (by assumption) ?_
              rotate_left
              · intro w hSw
                (try dsimp only at hSw)
                go_split_ands
                go_simp
                all_goals with_reducible rfl
              simp only [List.setIfInBounds_toArray, List.set_cons_zero, List.set_cons_succ]
              refine held_take (i := 19) (v := ?_) rfl (by kernel_rfl) (by kernel_rfl) (by kernel_rfl) (fun _ _ _ h => h) (Or.inl ⟨by kernel_rfl, ?_⟩) (by assumption) ?_
              rotate_left
              · intro w hSw
                (try dsimp only at hSw)
                go_split_ands
                go_simp
                all_goals with_reducible rfl
              simp only [List.setIfInBounds_toArray, List.set_cons_zero, List.set_cons_succ]
              refine held_take (i := 20) (v := ?_) rfl (by kernel_rfl) (by kernel_rfl) (by kernel_rfl) (fun _ _ _ h => h) (Or.inl ⟨by kernel_rfl, ?_⟩) (by assumption) ?_
              rotate_left
              · intro w hSw
                (try dsimp only at hSw)
                go_split_ands
                go_simp
                all_goals with_reducible rfl
              simp only [List.setIfInBounds_toArray, List.set_cons_zero, List.set_cons_succ]
              refine held_take (i := 22) (v := ?_) rfl (by kernel_rfl) (by kernel_rfl) (by kernel_rfl) (fun _ _ _ h => h) (Or.inl ⟨by kernel_rfl, ?_⟩) (by assumption) ?_
              rotate_left
              · intro w hSw
                (try dsimp only at hSw)
                go_split_ands
                go_simp
                all_goals with_reducible rfl
              simp only [List.setIfInBounds_toArray, List.set_cons_zero, List.set_cons_succ]
              refine held_take (i := 23) (v := ?_) rfl (by kernel_rfl) (by kernel_rfl) (by kernel_rfl) (fun _ _ _ h => h) (Or.inl ⟨by kernel_rfl, ?_⟩) (by assumption) ?_
              rotate_left
              · intro w hSw
                (try dsimp only at hSw)
                go_split_ands
                go_simp
                all_goals with_reducible rfl
              simp only [List.setIfInBounds_toArray, List.set_cons_zero, List.set_cons_succ]
              refine held_take (i := 24) (v := ?_) rfl (by kernel_rfl) (by kernel_rfl) (by kernel_rfl) (fun _ _ _ h => h) (Or.inl ⟨by kernel_rfl, ?_⟩) (by assumption) ?_
              rotate_left
              · intro w hSw
                (try dsimp only at hSw)
                go_split_ands
                go_simp
                all_goals with_reducible rfl
              simp only [List.setIfInBounds_toArray, List.set_cons_zero, List.set_cons_succ]
              refine held_take (i := 25) (v := ?_) rfl (by kernel_rfl) (by kernel_rfl) (by kernel_rfl) (fun _ _ _ h => h) (Or.inl ⟨by kernel_rfl, ?_⟩) (by assumption) ?_
              rotate_left
              · intro w hSw
                (try dsimp only at hSw)
                go_split_ands
                go_simp
                all_goals with_reducible rfl
              simp only [List.setIfInBounds_toArray, List.set_cons_zero, List.set_cons_succ]
              refine wpAnyH_ready (rs := [21]) (by kernel_rfl) (by simp) ?_
              refine AllReadyH.cons rfl (fun K hK => ?_) AllReadyH.nil
              go_simp
              go_wp2_with (go_at_call 23; refine (next_any (hA7.below hHeld.1)).mono ?_; rintro e w' ⟨rfl, rfl⟩)
              refine hK.out _ _ ?_ (fun hHeld => ?_)
              · exact hHeld
              clear hK K
              refine held_take (i := 26) (v := ?_) rfl (by kernel_rfl) (by kernel_rfl) (by kernel_rfl) (fun _ _ _ h => h) (Or.inl ⟨by kernel_rfl, ?_⟩) (by assumption) ?_
              rotate_left
              · intro w hSw
                (try dsimp only at hSw)
                go_split_ands
                go_simp
                all_goals with_reducible rfl
              simp only [List.setIfInBounds_toArray, List.set_cons_zero, List.set_cons_succ]
              refine held_take (i := 27) (v := ?_) rfl (by kernel_rfl) (by kernel_rfl) (by kernel_rfl) (fun _ _ _ h => h) (Or.inl ⟨by kernel_rfl, ?_⟩) (by assumption) ?_
              rotate_left
              · intro w hSw
                (try dsimp only at hSw)
                go_split_ands
                go_simp
                all_goals with_reducible rfl
              simp only [List.setIfInBounds_toArray, List.set_cons_zero, List.set_cons_succ]
              refine held_take (i := 28) (v := ?_) rfl (by kernel_rfl) (by kernel_rfl) (by kernel_rfl) (fun _ _ _ h => h) (Or.inl ⟨by kernel_rfl, ?_⟩) (by assumption) ?_
              rotate_left
              · intro w hSw
                (try dsimp only at hSw)
                go_split_ands
                go_simp
                all_goals with_reducible rfl
              simp only [List.setIfInBounds_toArray, List.set_cons_zero, List.set_cons_succ]
              refine held_take (i := 29) (v := ?_) rfl (by kernel_rfl) (by kernel_rfl) (by kernel_rfl) (fun _ _ _ h => h) (Or.inl ⟨by kernel_rfl, ?_⟩) (by assumption) ?_
              rotate_left
              · intro w hSw
                (try dsimp only at hSw)
                go_split_ands
                go_simp
                all_goals with_reducible rfl
              simp only [List.setIfInBounds_toArray, List.set_cons_zero, List.set_cons_succ]
              refine held_take (i := 31) (v := ?_) rfl (by kernel_rfl) (by kernel_rfl) (by kernel_rfl) (fun _ _ _ h => h) (Or.inl ⟨by kernel_rfl, ?_⟩) (by assumption) ?_
              rotate_left
              · intro w hSw
                (try dsimp only at hSw)
                go_split_ands
                go_simp
                all_goals with_reducible rfl
              simp only [List.setIfInBounds_toArray, List.set_cons_zero, List.set_cons_succ]
              refine held_take (i := 32) (v := ?_) rfl (by kernel_rfl) (by kernel_rfl) (by kernel_rfl) (fun _ _ _ h => h) (Or.inl ⟨by kernel_rfl, ?_⟩) (by assumption) ?_
              rotate_left
              · intro w hSw
                (try dsimp only at hSw)
                go_split_ands
                go_simp
                all_goals with_reducible rfl
              simp only [List.setIfInBounds_toArray, List.set_cons_zero, List.set_cons_succ]
              refine held_take (i := 33) (v := ?_) rfl (by kernel_rfl) (by kernel_rfl) (by kernel_rfl) (fun _ _ _ h => h) (Or.inl ⟨by kernel_rfl, ?_⟩) (by assumption) ?_
              rotate_left
              · intro w hSw
                (try dsimp only at hSw)
                go_split_ands
                go_simp
                all_goals with_reducible rfl
              simp only [List.setIfInBounds_toArray, List.set_cons_zero, List.set_cons_succ]
              refine held_take (i := 34) (v := ?_) rfl (by kernel_rfl) (by kernel_rfl) (by kernel_rfl) (fun _ _ _ h => h) (Or.inl ⟨by kernel_rfl, ?_⟩) (by assumption) ?_
              rotate_left
              · intro w hSw
                (try dsimp only at hSw)
                go_split_ands
                go_simp
                all_goals with_reducible rfl
              simp only [List.setIfInBounds_toArray, List.set_cons_zero, List.set_cons_succ]
              refine wpAnyH_ready (rs := [30]) (by kernel_rfl) (by simp) ?_
              refine AllReadyH.cons rfl (fun K hK => ?_) AllReadyH.nil
              go_simp
              go_wp2_with (go_at_call 21; refine (lost_any (hA7.below hHeld.1)).mono ?_; rintro e w' ⟨rfl, rfl⟩)
              refine hK.out _ _ ?_ (fun hHeld => ?_)
              · exact hHeld
              clear hK K
              refine held_take (i := 35) (v := ?_) rfl (by kernel_rfl) (by kernel_rfl) (by kernel_rfl) (fun _ _ _ h => h) (Or.inl ⟨by kernel_rfl, ?_⟩) (by assumption) ?_
              rotate_left
              · intro w hSw
                (try dsimp only at hSw)
                go_split_ands
                go_simp
                all_goals with_reducible rfl
              simp only [List.setIfInBounds_toArray, List.set_cons_zero, List.set_cons_succ]
              refine held_take (i := 36) (v := ?_) rfl (by kernel_rfl) (by kernel_rfl) (by kernel_rfl) (fun _ _ _ h => h) (Or.inl ⟨by kernel_rfl, ?_⟩) (by assumption) ?_
              rotate_left
              · intro w hSw
                (try dsimp only at hSw)
                go_split_ands
                go_simp
                all_goals with_reducible rfl
              simp only [List.setIfInBounds_toArray, List.set_cons_zero, List.set_cons_succ]
              refine held_take (i := 37) (v := ?_) rfl (by kernel_rfl) (by kernel_rfl) (by kernel_rfl) (fun _ _ _ h => h) (Or.inl ⟨by kernel_rfl, ?_⟩) (by assumption) ?_
              rotate_left
              · intro w hSw
                (try dsimp only at hSw)
                go_split_ands
                go_simp
                all_goals with_reducible rfl
              simp only [List.setIfInBounds_toArray, List.set_cons_zero, List.set_cons_succ]
              refine held_take (i := 38) (v := ?_) rfl (by kernel_rfl) (by kernel_rfl) (by kernel_rfl) (fun _ _ _ h => h) (Or.inl ⟨by kernel_rfl, ?_⟩) (by assumption) ?_
              rotate_left
              · intro w hSw
                (try dsimp only at hSw)
                go_split_ands
                go_simp
                all_goals with_reducible rfl
              simp only [List.setIfInBounds_toArray, List.set_cons_zero, List.set_cons_succ]
              refine wpAnyH_ready (rs := [39]) (by kernel_rfl) (by simp) ?_
              refine AllReadyH.cons rfl (fun K hK => ?_) AllReadyH.nil
              go_simp
              go_wp2_with (go_at_call 22; refine (held_any (hA7.below hHeld.1)).mono ?_; rintro e w' ⟨rfl, rfl⟩)
              refine hK.out _ _ ?_ (fun hHeld => ?_)
              · exact hHeld
              clear hK K
              refine held_take (i := 40) (v := ?_) rfl (by kernel_rfl) (by kernel_rfl) (by kernel_rfl) (fun _ _ _ h => h) (Or.inl ⟨by kernel_rfl, ?_⟩) (by assumption) ?_
              rotate_left
              · intro w hSw
                (try dsimp only at hSw)
                go_split_ands
                go_simp
                all_goals with_reducible rfl
              simp only [List.setIfInBounds_toArray, List.set_cons_zero, List.set_cons_succ]
              refine held_take (i := 41) (v := ?_) rfl (by kernel_rfl) (by kernel_rfl) (by kernel_rfl) (fun _ _ _ h => h) (Or.inl ⟨by kernel_rfl, ?_⟩) (by assumption) ?_
              rotate_left
              · intro w hSw
                (try dsimp only at hSw)
                go_split_ands
                go_simp
                all_goals with_reducible rfl
              simp only [List.setIfInBounds_toArray, List.set_cons_zero, List.set_cons_succ]
              refine wpAnyH_done (by kernel_rfl) ?_ _
              go_wp2_with fail
              go_roundw
              case rel => exact ⟨i + 1, N2, _, _, by omega, rfl, rfl, hNc.out, hA7.below hHeld.1, hQ7.below hHeld.1, hrs6, hsy6, hsm6, hw7.trans (hHeld.1.mono hw7.size)⟩
              case measure => exact hms.out
            | true =>
              have hNc : -(((i + 1 : Nat) : Int) * 1073741824) ≤ N ∧ N ≤ ((i + 1 : Nat) : Int) * 1073741824 := by omega
              replace hNc := Lib.hid hNc
              rw [hraw] at c4 kd hA4 hQ4 hw4 hW4
              replace hraw := Lib.hid hraw
              replace hN := Lib.hid hN
              replace hBl := Lib.hid hBl
              clear hN1 hN2 hNb hrow0 hrng hrl hA hQ hcap hmost hNw hlh
              have hlh : True := trivial
              generalize toBytes (d.zs.take d.bn) = bts at hBd hBl
              have hBl := hBl.out
              have B5 := hBd.below hw4 (Nat.le_refl _)
              have hl5 := hBl
              have hA5 := hA4
              have hQ5 := hQ4
              have kd5 := kd
              have g5 := kd5.cell 0
              clear hA4 hQ4 kd hlh
              go_wp2_with (first | (go_at_call 15; refine (add_any d.d hA5 hrs.out B5 hl5).mono ?_; rintro e w6 ⟨v6, L6, e6, t6, rfl, hR6, hA6, hF6, hb6⟩; have hQ6 := hQ5.beside hA5 hd hb6; have B6 := hBd.below (hA5.under hw4 hb1.size hb6) (Nat.le_refl _); have kd6 := kd5.jo hA5 (by decide) (by decide) hb6; have g6 := kd6.cell 0) | (go_at_call 26; refine (radd_any d.d hQ6 hrs.out B6 hl5).mono ?_; rintro e w7 ⟨v7, L7, e7, t7, vh7, rfl, hR7, hQ7, hF7, hb7, hn7⟩; obtain ⟨rfl, rfl, rfl⟩ := hR6.one hR7; have hA7 := hA6.rbeside hQ6 hd hb7; have hF67 := hF6.rf hQ6 hb7))
              have hw6 := hA5.under hw4 hb1.size hb6
              have hw7 := hQ6.under hw6 hb12.size hb7
              obtain ⟨a6x, q6, rfl, R6⟩ := hF67.rl (fun x hx => by have h1 := hR6.most x hx; rw [hsm.out] at h1; omega)
              obtain ⟨a7', q7', rfl, R7⟩ := hF7.rl (fun x hx => by have h1 := hR6.most x hx; rw [hsm.out] at h1; omega)
              have hfr := fun W hW => frames_any _ _ _ _ _ _ _ _ W (R6.below hW) (R7.below hW)
              simp only at hfr
              replace hfr := Lib.hid hfr
              have hres := hR6.rest hrs.out hl5
              have hrs6 := Lib.hid hres.1
              have hsy6 := Lib.hid (hres.2.1.trans hsy.out)
              have hsm6 := Lib.hid (hres.2.2.1.trans hsm.out)
              have h64I : ¬ ((64 : Int) < (t6.held.length : Int)) := by have := hres.1.few; omega
              obtain ⟨ah, chh, rfl⟩ := hQ7.slice
              have hS := Lib.hid (fun W (hW : Below w7.heap.size w7 W) => And.intro hW (hQ7.cells3 hW))
              clear hres R6 R7 hF67 hF7 hF6 kd5 kd6 g5 g6 B5 B6 hR6 hR7 hA5 hA6 hQ5 hQ6 hb6 hb7
              refine wp_region_held_drew (S := fun W => Below w7.heap.size w7 W ∧ W.cell? ⟨w2.heap.size, 2, none⟩ = some (.int .i64 (t6.next : Nat)) ∧ W.cell? ⟨w2.heap.size, 4, none⟩ = some (.slice ah t6.held.length chh) ∧ W.cell? ⟨w2.heap.size, 5, none⟩ = some (.int .i64 (wrap64 (t6.lost : Nat)))) (by kernel_rfl) (hS.out _ (Below.refl _ _).drew) (fun hHeld => ?_)
              refine held_take (i := 0) (v := ?_) rfl (by kernel_rfl) (by kernel_rfl) (by kernel_rfl) (fun _ _ _ h => h) (Or.inl ⟨by kernel_rfl, ?_⟩) (by assumption) ?_
              rotate_left
              · intro w hSw
                (try dsimp only at hSw)
                go_split_ands
                go_simp
                all_goals with_reducible rfl
              simp only [List.setIfInBounds_toArray, List.set_cons_zero, List.set_cons_succ]
              refine held_take (i := 1) (v := ?_) rfl (by kernel_rfl) (by kernel_rfl) (by kernel_rfl) (fun _ _ _ h => h) (Or.inl ⟨by kernel_rfl, ?_⟩) (by assumption) ?_
              rotate_left
              · intro w hSw
                (try dsimp only at hSw)
                go_split_ands
                go_simp
                all_goals with_reducible rfl
              simp only [List.setIfInBounds_toArray, List.set_cons_zero, List.set_cons_succ]
              refine held_take (i := 2) (v := ?_) rfl (by kernel_rfl) (by kernel_rfl) (by kernel_rfl) (fun _ _ _ h => h) (Or.inl ⟨by kernel_rfl, ?_⟩) (by assumption) ?_
              rotate_left
              · intro w hSw
                (try dsimp only at hSw)
                go_split_ands
                go_simp
                all_goals with_reducible rfl
              simp only [List.setIfInBounds_toArray, List.set_cons_zero, List.set_cons_succ]
              refine held_take (i := 3) (v := ?_) rfl (by kernel_rfl) (by kernel_rfl) (by kernel_rfl) (fun _ _ _ h => h) (Or.inl ⟨by kernel_rfl, ?_⟩) (by assumption) ?_
              rotate_left
              · intro w hSw
                (try dsimp only at hSw)
                go_split_ands
                go_simp
                all_goals with_reducible rfl
              simp only [List.setIfInBounds_toArray, List.set_cons_zero, List.set_cons_succ]
              refine held_take (i := 4) (v := ?_) rfl (by kernel_rfl) (by kernel_rfl) (by kernel_rfl) (fun _ _ _ h => h) (Or.inl ⟨by kernel_rfl, ?_⟩) (by assumption) ?_
              rotate_left
              · intro w hSw
                (try dsimp only at hSw)
                go_split_ands
                go_simp
                all_goals with_reducible rfl
              simp only [List.setIfInBounds_toArray, List.set_cons_zero, List.set_cons_succ]
              refine held_take (i := 5) (v := ?_) rfl (by kernel_rfl) (by kernel_rfl) (by kernel_rfl) (fun _ _ _ h => h) (Or.inl ⟨by kernel_rfl, ?_⟩) (by assumption) ?_
              rotate_left
              · intro w hSw
                (try dsimp only at hSw)
                go_split_ands
                go_simp
                all_goals with_reducible rfl
              simp only [List.setIfInBounds_toArray, List.set_cons_zero, List.set_cons_succ]
              refine wpAnyH_ready (rs := [6]) (by kernel_rfl) (by simp) ?_
              refine AllReadyH.cons rfl (fun K hK => ?_) AllReadyH.nil
              go_simp
              go_wp2_with (go_at_call 20; refine (hfr.out _ hHeld.1).mono ?_; rintro e w8 ⟨rfl, hb8⟩; have hS8 := hS.out _ (hHeld.1.trans (hb8.mono hHeld.1.size)))
              refine hK.out _ _ ?_ (fun hHeld => ?_)
              · exact hS8
              clear hK K
              refine held_take (i := 7) (v := ?_) rfl (by kernel_rfl) (by kernel_rfl) (by kernel_rfl) (fun _ _ _ h => h) (Or.inl ⟨by kernel_rfl, ?_⟩) (by assumption) ?_
              rotate_left
              · intro w hSw
                (try dsimp only at hSw)
                go_split_ands
                go_simp
                all_goals with_reducible rfl
              simp only [List.setIfInBounds_toArray, List.set_cons_zero, List.set_cons_succ]
              refine held_take (i := 8) (v := ?_) rfl (by kernel_rfl) (by kernel_rfl) (by kernel_rfl) (fun _ _ _ h => h) (Or.inl ⟨by kernel_rfl, ?_⟩) (by assumption) ?_
              rotate_left
              · intro w hSw
                (try dsimp only at hSw)
                go_split_ands
                go_simp
                all_goals with_reducible rfl
              simp only [List.setIfInBounds_toArray, List.set_cons_zero, List.set_cons_succ]
              refine held_take (i := 9) (v := ?_) rfl (by kernel_rfl) (by kernel_rfl) (by kernel_rfl) (fun _ _ _ h => h) (Or.inl ⟨by kernel_rfl, ?_⟩) (by assumption) ?_
              rotate_left
              · intro w hSw
                (try dsimp only at hSw)
                go_split_ands
                go_simp
                all_goals with_reducible rfl
              simp only [List.setIfInBounds_toArray, List.set_cons_zero, List.set_cons_succ]
              refine held_take (i := 10) (v := ?_) rfl (by kernel_rfl) (by kernel_rfl) (by kernel_rfl) (fun _ _ _ h => h) (Or.inl ⟨by kernel_rfl, ?_⟩) (by assumption) ?_
              rotate_left
              · intro w hSw
                (try dsimp only at hSw)
                go_split_ands
                go_simp
                all_goals with_reducible rfl
              simp only [List.setIfInBounds_toArray, List.set_cons_zero, List.set_cons_succ]
              refine held_take (i := 12) (v := ?_) rfl (by kernel_rfl) (by kernel_rfl) (by kernel_rfl) (fun _ _ _ h => h) (Or.inl ⟨by kernel_rfl, ?_⟩) (by assumption) ?_
              rotate_left
              · intro w hSw
                (try dsimp only at hSw)
                go_split_ands
                go_simp
                all_goals with_reducible rfl
              simp only [List.setIfInBounds_toArray, List.set_cons_zero, List.set_cons_succ]
              refine held_take (i := 13) (v := ?_) rfl (by kernel_rfl) (by kernel_rfl) (by kernel_rfl) (fun _ _ _ h => h) (Or.inl ⟨by kernel_rfl, ?_⟩) (by assumption) ?_
              rotate_left
              · intro w hSw
                (try dsimp only at hSw)
                go_split_ands
                go_simp
                all_goals with_reducible rfl
              simp only [List.setIfInBounds_toArray, List.set_cons_zero, List.set_cons_succ]
              refine held_take (i := 14) (v := ?_) rfl (by kernel_rfl) (by kernel_rfl) (by kernel_rfl) (fun _ _ _ h => h) (Or.inl ⟨by kernel_rfl, ?_⟩) (by assumption) ?_
              rotate_left
              · intro w hSw
                (try dsimp only at hSw)
                go_split_ands
                go_simp
                all_goals with_reducible rfl
              simp only [List.setIfInBounds_toArray, List.set_cons_zero, List.set_cons_succ]
              refine held_take (i := 15) (v := ?_) rfl (by kernel_rfl) (by kernel_rfl) (by kernel_rfl) (fun _ _ _ h => h) (Or.inl ⟨by kernel_rfl, ?_⟩) (by assumption) ?_
              rotate_left
              · intro w hSw
                (try dsimp only at hSw)
                go_split_ands
                go_simp
                all_goals with_reducible rfl
              simp only [List.setIfInBounds_toArray, List.set_cons_zero, List.set_cons_succ]
              refine held_take (i := 16) (v := ?_) rfl (by kernel_rfl) (by kernel_rfl) (by kernel_rfl) (fun _ _ _ h => h) (Or.inl ⟨by kernel_rfl, ?_⟩) (by assumption) ?_
              rotate_left
              · intro w hSw
                (try dsimp only at hSw)
                go_split_ands
                go_simp
                all_goals with_reducible rfl
              simp only [List.setIfInBounds_toArray, List.set_cons_zero, List.set_cons_succ]
              refine wpAnyH_ready (rs := [11]) (by kernel_rfl) (by simp) ?_
              refine AllReadyH.cons rfl (fun K hK => ?_) AllReadyH.nil
              go_simp
              go_wp2_with (go_at_call 22; refine (held_any (hA7.below hHeld.1)).mono ?_; rintro e w' ⟨rfl, rfl⟩)
              refine hK.out _ _ ?_ (fun hHeld => ?_)
              · exact hHeld
              clear hK K
              refine held_take (i := 17) (v := ?_) rfl (by kernel_rfl) (by kernel_rfl) (by kernel_rfl) (fun _ _ _ h => h) (Or.inl ⟨by kernel_rfl, ?_⟩) (by assumption) ?_
              rotate_left
              · intro w hSw
                (try dsimp only at hSw)
                go_split_ands
                go_simp
                all_goals with_reducible rfl
              simp only [List.setIfInBounds_toArray, List.set_cons_zero, List.set_cons_succ]
              refine held_take (i := 18) (v := ?_) rfl (by kernel_rfl) (by kernel_rfl) (by kernel_rfl) (fun _ _ _ h => h) (Or.inl ⟨by kernel_rfl, ?_⟩) (by assumption) ?_
              rotate_left
              · intro w hSw
                (try dsimp only at hSw)
                go_split_ands
                go_simp
                all_goals with_reducible rfl
              simp only [List.setIfInBounds_toArray, List.set_cons_zero, List.set_cons_succ]
              refine held_take (i := 19) (v := ?_) rfl (by kernel_rfl) (by kernel_rfl) (by kernel_rfl) (fun _ _ _ h => h) (Or.inl ⟨by kernel_rfl, ?_⟩) (by assumption) ?_
              rotate_left
              · intro w hSw
                (try dsimp only at hSw)
                go_split_ands
                go_simp
                all_goals with_reducible rfl
              simp only [List.setIfInBounds_toArray, List.set_cons_zero, List.set_cons_succ]
              refine held_take (i := 20) (v := ?_) rfl (by kernel_rfl) (by kernel_rfl) (by kernel_rfl) (fun _ _ _ h => h) (Or.inl ⟨by kernel_rfl, ?_⟩) (by assumption) ?_
              rotate_left
              · intro w hSw
                (try dsimp only at hSw)
                go_split_ands
                go_simp
                all_goals with_reducible rfl
              simp only [List.setIfInBounds_toArray, List.set_cons_zero, List.set_cons_succ]
              refine held_take (i := 22) (v := ?_) rfl (by kernel_rfl) (by kernel_rfl) (by kernel_rfl) (fun _ _ _ h => h) (Or.inl ⟨by kernel_rfl, ?_⟩) (by assumption) ?_
              rotate_left
              · intro w hSw
                (try dsimp only at hSw)
                go_split_ands
                go_simp
                all_goals with_reducible rfl
              simp only [List.setIfInBounds_toArray, List.set_cons_zero, List.set_cons_succ]
              refine held_take (i := 23) (v := ?_) rfl (by kernel_rfl) (by kernel_rfl) (by kernel_rfl) (fun _ _ _ h => h) (Or.inl ⟨by kernel_rfl, ?_⟩) (by assumption) ?_
              rotate_left
              · intro w hSw
                (try dsimp only at hSw)
                go_split_ands
                go_simp
                all_goals with_reducible rfl
              simp only [List.setIfInBounds_toArray, List.set_cons_zero, List.set_cons_succ]
              refine held_take (i := 24) (v := ?_) rfl (by kernel_rfl) (by kernel_rfl) (by kernel_rfl) (fun _ _ _ h => h) (Or.inl ⟨by kernel_rfl, ?_⟩) (by assumption) ?_
              rotate_left
              · intro w hSw
                (try dsimp only at hSw)
                go_split_ands
                go_simp
                all_goals with_reducible rfl
              simp only [List.setIfInBounds_toArray, List.set_cons_zero, List.set_cons_succ]
              refine held_take (i := 25) (v := ?_) rfl (by kernel_rfl) (by kernel_rfl) (by kernel_rfl) (fun _ _ _ h => h) (Or.inl ⟨by kernel_rfl, ?_⟩) (by assumption) ?_
              rotate_left
              · intro w hSw
                (try dsimp only at hSw)
                go_split_ands
                go_simp
                all_goals with_reducible rfl
              simp only [List.setIfInBounds_toArray, List.set_cons_zero, List.set_cons_succ]
              refine wpAnyH_ready (rs := [21]) (by kernel_rfl) (by simp) ?_
              refine AllReadyH.cons rfl (fun K hK => ?_) AllReadyH.nil
              go_simp
              go_wp2_with (go_at_call 23; refine (next_any (hA7.below hHeld.1)).mono ?_; rintro e w' ⟨rfl, rfl⟩)
              refine hK.out _ _ ?_ (fun hHeld => ?_)
              · exact hHeld
              clear hK K
              refine held_take (i := 26) (v := ?_) rfl (by kernel_rfl) (by kernel_rfl) (by kernel_rfl) (fun _ _ _ h => h) (Or.inl ⟨by kernel_rfl, ?_⟩) (by assumption) ?_
              rotate_left
              · intro w hSw
                (try dsimp only at hSw)
                go_split_ands
                go_simp
                all_goals with_reducible rfl
              simp only [List.setIfInBounds_toArray, List.set_cons_zero, List.set_cons_succ]
              refine held_take (i := 27) (v := ?_) rfl (by kernel_rfl) (by kernel_rfl) (by kernel_rfl) (fun _ _ _ h => h) (Or.inl ⟨by kernel_rfl, ?_⟩) (by assumption) ?_
              rotate_left
              · intro w hSw
                (try dsimp only at hSw)
                go_split_ands
                go_simp
                all_goals with_reducible rfl
              simp only [List.setIfInBounds_toArray, List.set_cons_zero, List.set_cons_succ]
              refine held_take (i := 28) (v := ?_) rfl (by kernel_rfl) (by kernel_rfl) (by kernel_rfl) (fun _ _ _ h => h) (Or.inl ⟨by kernel_rfl, ?_⟩) (by assumption) ?_
              rotate_left
              · intro w hSw
                (try dsimp only at hSw)
                go_split_ands
                go_simp
                all_goals with_reducible rfl
              simp only [List.setIfInBounds_toArray, List.set_cons_zero, List.set_cons_succ]
              refine held_take (i := 29) (v := ?_) rfl (by kernel_rfl) (by kernel_rfl) (by kernel_rfl) (fun _ _ _ h => h) (Or.inl ⟨by kernel_rfl, ?_⟩) (by assumption) ?_
              rotate_left
              · intro w hSw
                (try dsimp only at hSw)
                go_split_ands
                go_simp
                all_goals with_reducible rfl
              simp only [List.setIfInBounds_toArray, List.set_cons_zero, List.set_cons_succ]
              refine held_take (i := 31) (v := ?_) rfl (by kernel_rfl) (by kernel_rfl) (by kernel_rfl) (fun _ _ _ h => h) (Or.inl ⟨by kernel_rfl, ?_⟩) (by assumption) ?_
              rotate_left
              · intro w hSw
                (try dsimp only at hSw)
                go_split_ands
                go_simp
                all_goals with_reducible rfl
              simp only [List.setIfInBounds_toArray, List.set_cons_zero, List.set_cons_succ]
              refine held_take (i := 32) (v := ?_) rfl (by kernel_rfl) (by kernel_rfl) (by kernel_rfl) (fun _ _ _ h => h) (Or.inl ⟨by kernel_rfl, ?_⟩) (by assumption) ?_
              rotate_left
              · intro w hSw
                (try dsimp only at hSw)
                go_split_ands
                go_simp
                all_goals with_reducible rfl
              simp only [List.setIfInBounds_toArray, List.set_cons_zero, List.set_cons_succ]
              refine held_take (i := 33) (v := ?_) rfl (by kernel_rfl) (by kernel_rfl) (by kernel_rfl) (fun _ _ _ h => h) (Or.inl ⟨by kernel_rfl, ?_⟩) (by assumption) ?_
              rotate_left
              · intro w hSw
                (try dsimp only at hSw)
                go_split_ands
                go_simp
                all_goals with_reducible rfl
              simp only [List.setIfInBounds_toArray, List.set_cons_zero, List.set_cons_succ]
              refine held_take (i := 34) (v := ?_) rfl (by kernel_rfl) (by kernel_rfl) (by kernel_rfl) (fun _ _ _ h => h) (Or.inl ⟨by kernel_rfl, ?_⟩) (by assumption) ?_
              rotate_left
              · intro w hSw
                (try dsimp only at hSw)
                go_split_ands
                go_simp
                all_goals with_reducible rfl
              simp only [List.setIfInBounds_toArray, List.set_cons_zero, List.set_cons_succ]
              refine wpAnyH_ready (rs := [30]) (by kernel_rfl) (by simp) ?_
              refine AllReadyH.cons rfl (fun K hK => ?_) AllReadyH.nil
              go_simp
              go_wp2_with (go_at_call 21; refine (lost_any (hA7.below hHeld.1)).mono ?_; rintro e w' ⟨rfl, rfl⟩)
              refine hK.out _ _ ?_ (fun hHeld => ?_)
              · exact hHeld
              clear hK K
              refine held_take (i := 35) (v := ?_) rfl (by kernel_rfl) (by kernel_rfl) (by kernel_rfl) (fun _ _ _ h => h) (Or.inl ⟨by kernel_rfl, ?_⟩) (by assumption) ?_
              rotate_left
              · intro w hSw
                (try dsimp only at hSw)
                go_split_ands
                go_simp
                all_goals with_reducible rfl
              simp only [List.setIfInBounds_toArray, List.set_cons_zero, List.set_cons_succ]
              refine held_take (i := 36) (v := ?_) rfl (by kernel_rfl) (by kernel_rfl) (by kernel_rfl) (fun _ _ _ h => h) (Or.inl ⟨by kernel_rfl, ?_⟩) (by assumption) ?_
              rotate_left
              · intro w hSw
                (try dsimp only at hSw)
                go_split_ands
                go_simp
                all_goals with_reducible rfl
              simp only [List.setIfInBounds_toArray, List.set_cons_zero, List.set_cons_succ]
              refine held_take (i := 37) (v := ?_) rfl (by kernel_rfl) (by kernel_rfl) (by kernel_rfl) (fun _ _ _ h => h) (Or.inl ⟨by kernel_rfl, ?_⟩) (by assumption) ?_
              rotate_left
              · intro w hSw
                (try dsimp only at hSw)
                go_split_ands
                go_simp
                all_goals with_reducible rfl
              simp only [List.setIfInBounds_toArray, List.set_cons_zero, List.set_cons_succ]
              refine held_take (i := 38) (v := ?_) rfl (by kernel_rfl) (by kernel_rfl) (by kernel_rfl) (fun _ _ _ h => h) (Or.inl ⟨by kernel_rfl, ?_⟩) (by assumption) ?_
              rotate_left
              · intro w hSw
                (try dsimp only at hSw)
                go_split_ands
                go_simp
                all_goals with_reducible rfl
              simp only [List.setIfInBounds_toArray, List.set_cons_zero, List.set_cons_succ]
              refine wpAnyH_ready (rs := [39]) (by kernel_rfl) (by simp) ?_
              refine AllReadyH.cons rfl (fun K hK => ?_) AllReadyH.nil
              go_simp
              go_wp2_with (go_at_call 22; refine (held_any (hA7.below hHeld.1)).mono ?_; rintro e w' ⟨rfl, rfl⟩)
              refine hK.out _ _ ?_ (fun hHeld => ?_)
              · exact hHeld
              clear hK K
              refine held_take (i := 40) (v := ?_) rfl (by kernel_rfl) (by kernel_rfl) (by kernel_rfl) (fun _ _ _ h => h) (Or.inl ⟨by kernel_rfl, ?_⟩) (by assumption) ?_
              rotate_left
              · intro w hSw
                (try dsimp only at hSw)
                go_split_ands
                go_simp
                all_goals with_reducible rfl
              simp only [List.setIfInBounds_toArray, List.set_cons_zero, List.set_cons_succ]
              refine held_take (i := 41) (v := ?_) rfl (by kernel_rfl) (by kernel_rfl) (by kernel_rfl) (fun _ _ _ h => h) (Or.inl ⟨by kernel_rfl, ?_⟩) (by assumption) ?_
              rotate_left
              · intro w hSw
                (try dsimp only at hSw)
                go_split_ands
                go_simp
                all_goals with_reducible rfl
              simp only [List.setIfInBounds_toArray, List.set_cons_zero, List.set_cons_succ]
              refine wpAnyH_done (by kernel_rfl) ?_ _
              go_wp2_with fail
              go_roundw
              case rel => exact ⟨i + 1, N, _, _, by omega, rfl, rfl, hNc.out, hA7.below hHeld.1, hQ7.below hHeld.1, hrs6, hsy6, hsm6, hw7.trans (hHeld.1.mono hw7.size)⟩
              case measure => exact hms.out
    · have hie : i = n := by omega
      replace hie := Lib.hid hie
      go_wp2_with fail
      go_ret
      exact ⟨rfl, hbr⟩
end Go.Proofs.Ytglmlhbchfgliaa
