/-
  MultiLost: the walk. No conditions.
-/
import Derived.Test.YtglmlhbchfgliaaMuLost
import Derived.Test.YtglmlhbchfgliaaMuAppF
import Derived.Test.YtglmlhbchfgliaaRowsIn
namespace Go.Proofs.Ytglmlhbchfgliaa
open Go.RowKit Go.Maps
set_option maxRecDepth 100000 in
/-- too many rows -/
theorem lost_out {w : World} (a a2 : Option Addr) (n c n2 c2 : Nat) (short : Bool) (hn : 20 < n ∨ 400 < n2) :
    Calls Try.prog 5 #[.slice a n c, .bool short, .slice a2 n2 c2] w fun e w' => e = .returned (.bool true) ∧ Below w.heap.size w w' := by
  by_cases h1 : 20 < n
  · have h1I : (20 : Int) < (n : Int) := by omega
    go_enter Try.func5, Try.ntmps5
    go_wp2_with (go_at_call 12; refine (awake_any w).mono ?_; rintro e w1 ⟨rfl, hb1⟩)
    go_ret
    exact ⟨rfl, hb1⟩
  · have h1I : (n : Int) ≤ 20 := by omega
    have h2I : (400 : Int) < (n2 : Int) := by omega
    go_enter Try.func5, Try.ntmps5
    go_wp2_with (go_at_call 12; refine (awake_any w).mono ?_; rintro e w1 ⟨rfl, hb1⟩)
    go_ret
    exact ⟨rfl, hb1⟩
theorem lost_size {n : Nat} (h1 : 1 ≤ n) : (n - 1) / (1 + n / 4) < 16 := by
  rw [Nat.div_lt_iff_lt_mul (by omega)]
  omega
/-- between two datagrams -/
def Gap (s : JS) (short : Bool) (nx G : Nat) : Prop := ∃ a ps gap lost, Line s short 4096 a ps gap lost ∧ (a + ps.length + gap) % rgN short = nx ∧ ps.length + gap ≤ G ∧ (1 ≤ gap ∨ ps = [])
theorem Gap.mid {s : JS} {short : Bool} {nx G S : Nat} {l : List UInt8} {L : List (List UInt8)} (h : Gap s short nx G) (hnx : nx < rgN short) (hX : L = (cutF (rgN short) S short l.length (flagN true false) nx l).1) : MidL s short l L S nx 0 nx l.length G [] l true := by
  obtain ⟨a, ps, gap, lost, h1, h2, h3, h4⟩ := h
  exact ⟨rfl, by rw [hX]; rfl, (Nat.mod_eq_of_lt hnx).symm, Nat.le_refl _, fun _ => ⟨rfl, rfl⟩, a, ps, gap, lost, h1, h2, h3, Or.inr ⟨by omega, h4⟩⟩
theorem MidL.gap {s : JS} {short : Bool} {l A l1 : List UInt8} {L : List (List UInt8)} {S nx n1 fu G : Nat} {whole : Bool} (h : MidL s short l L S nx L.length n1 fu G A l1 whole) : Gap s short ((nx + L.length) % rgN short) G := by
  obtain ⟨a, ps, gap, lost, h1, h2, h3, h4⟩ := h.line
  refine ⟨a, ps, gap, lost, h1, by rw [h2, h.num], h3, ?_⟩
  rcases h4 with ⟨_, _, e, _⟩ | ⟨_, e⟩
  · omega
  · exact e
/-- another row of rows grows -/
theorem Fr.other {w w' : World} {B B' n : Nat} {v vo : Value} {xs : List Value} {L : List (List UInt8)} (h : Fr w B v L) (ho : w.ownsRow B' 27 1 vo n xs) (hg : w.grownBy w' vo.ownBlock) (hne : ∀ k, v.ownBlock = some k → vo.ownBlock ≠ some k) : Fr w' B v L := by
  obtain ⟨ys, h1, h2⟩ := h.ex
  have hb : ButOf (fun k => vo.ownBlock = some k) w w' := ButOf.of_grown hg (fun _ e => e)
  refine ⟨ys, own_but h1 hb (fun k hk => hne k hk), h2.but hb (fun x hx k hk => ?_)⟩
  obtain ⟨l', hl'⟩ := h2.mem x hx
  exact own_own_ne hl' ho (by decide) hk
set_option maxRecDepth 100000 in
set_option maxHeartbeats 600000 in
theorem lost_in {w : World} {a a2 : Option Addr} {n c n2 c2 : Nat} {f : Nat → RowV} {z2 : List UInt8} (short : Bool) (h : Rws w a n c f) (hB2 : Bts w a2 n2 c2 z2) (hn : n ≤ 20) (hn2 : n2 ≤ 400) :
    Calls Try.prog 5 #[.slice a n c, .bool short, .slice a2 n2 c2] w fun e w' => e = .returned (.bool true) ∧ Below w.heap.size w w' := by
  have hnI : (n : Int) ≤ 20 := by omega
  have hn2I : (n2 : Int) ≤ 400 := by omega
  have hcap := h.cap
  have hmo := h.most
  have hnew := fun W => new_any (w := W) 1 4096 short (by decide) (by decide) (by decide) (by decide)
  replace hnew := Lib.hid hnew
  have hrest := newJ_rest 1 4096 short (by decide) (by decide)
  replace hrest := Lib.hid hrest
  have hgap0 : Gap (newJ 1 4096 short) short 0 0 := ⟨0, [], 0, 0, ⟨⟨-1, rfl, Or.inl rfl⟩, rgN_pos _, by simp, by simp, by simp⟩, by simp, Nat.le_refl _, Or.inr rfl⟩
  replace hgap0 := Lib.hid hgap0
  go_enter Try.func5, Try.ntmps5
  go_wp2_with (first | (go_at_call 12; refine (awake_any w).mono ?_; rintro e w1 ⟨rfl, hb1⟩) | (go_at_call 14; refine (hnew.out w1).mono ?_; rintro e w2 ⟨vl, rfl, hJ, hb2⟩))
  have hb12 := hb1.trans (hb2.mono hb1.size)
  clear hnew
  go_loopw [9, 10, 11] (fun v9 v10 v11 wr => ∃ (i nx at_ : Nat) (s : JS), i ≤ n ∧ v11 = .int .i64 i ∧ v9 = .int .i64 nx ∧ v10 = .int .i64 at_ ∧ at_ ≤ 16 * i ∧ Hid (nx < rgN short) ∧ Hid (Gap s short nx (16 * i)) ∧ Jo wr w1.heap.size (w1.heap.size + 1) w1.heap.size vl s ∧ Hid (Rest s) ∧ Below w.heap.size w wr) (fun _ _ v11 _ => n - (intOf v11).toNat)
  case atStart => exact ⟨0, 0, 0, _, Nat.zero_le _, rfl, rfl, rfl, Nat.zero_le _, Lib.hid (rgN_pos _), hgap0, hJ, hrest, hb12⟩
  case round =>
    obtain ⟨i, nx, at_, s, hi, rfl, rfl, rfl, hat, hnx, hgp, hJr, hrs, hbr⟩ := hrel
    by_cases hlt : i < n
    · have hltI : (i : Int) < (n : Int) := by omega
      have hms : n - (intOf (.int .i64 ((i : Int) + 1))).toNat < n - (intOf (.int .i64 (i : Int))).toNat := by simp [intOf]; omega
      replace hms := Lib.hid hms
      obtain ⟨g, o, rfl, hg, ci⟩ := h.at_ hbr hlt
      have ciw := (hbr.cell (p := ⟨g, o + i, none⟩) hg).symm.trans ci
      have hle := h.len hlt
      by_cases hbn : 100 < (f i).bn
      · have hbnI : (100 : Int) < ((f i).bn : Int) := by omega
        generalize (f i).bn = bn at *
        go_wp2_with fail
        go_ret
        exact ⟨rfl, hbr⟩
      · have hBl := h.bts hlt (by omega)
        have hbnI : ((f i).bn : Int) ≤ 100 := by omega
        have hll := hBl.len
        have hbnN : (f i).bn ≤ 100 := by omega
        generalize (f i).bytes = l at hBl hll
        generalize (f i).bn = bn at *
        generalize (f i).ba = ba at *
        generalize (f i).bc = bc at *
        obtain ⟨S, hS⟩ : ∃ S, 1 + bn / 4 = S := ⟨_, rfl⟩
        have hS0 : 0 < S := by omega
        have hSb : S ≤ 100 := by omega
        obtain ⟨q, hq⟩ : ∃ q, bn / 4 = q := ⟨_, rfl⟩
        have hq1 : (bn : Int).tdiv 4 = (q : Int) := by rw [Int.tdiv_eq_ediv_of_nonneg (by omega)]; omega
        have hq2 : (bn : Int) / 4 = (q : Int) := by omega
        have hSq : (1 : Int) + (q : Int) = (S : Int) := by omega
        have hcut := fun W hW => cut_any (w := W) (a := ba) (n := bn) (c := bc) (l := l) S nx short hW (by omega) (by omega)
        have hsz := fun h1 => lost_size (n := bn) h1
        rw [hS] at hsz
        have hqw : IntKind.i64.wrap (q : Int) = (q : Int) := by rw [IntKind.wrap_i64]; omega
        have hSx : IntKind.i64.wrap (S : Int) = (S : Int) := by rw [IntKind.wrap_i64]; omega
        have hSw : IntKind.i64.wrap (1 + (q : Int)) = (S : Int) := by rw [IntKind.wrap_i64]; omega
        replace hq := Lib.hid hq
        replace hS := Lib.hid hS
        have ci2 := fun W (hW : Below wr.heap.size wr W) => (hW.cell (p := ⟨g, o + i, none⟩) (World.block_lt_of_cell? _ _ ci)).trans ci
        by_cases hb0 : bn = 0
        · have hl0 : l = [] := List.eq_nil_of_length_eq_zero (by omega)
          have hcz : cutP l S nx short = ([], 0, 1) := by subst hl0; simp [cutP]
          rw [hcz] at hcut
          replace hcut := Lib.hid hcut
          replace hb0 := Lib.hid hb0
          clear hcz hl0
          go_wp2_with fail
          go_region_held3 (fun W => W.cell? ⟨g, o + i, none⟩ = some (.slice ba bn bc)) (first | exact ci | exact ci3) ((go_at_call 13; refine (hcut.out _ (hBl.below (hbr.drew) (Nat.le_refl _))).mono ?_; rintro e w5 ⟨v, rfl, hF, hb5⟩; have hb5' := below_of_drew hb5; have ci3 := ci2 _ hb5'; obtain ⟨av, cv, rfl⟩ := hF.none))
          go_wp2_with fail
          go_roundw
          case rel => exact ⟨i + 1, nx, at_, s, by omega, rfl, rfl, rfl, by omega, hnx, Lib.hid (by obtain ⟨a', ps, gap, lost, e1, e2, e3, e4⟩ := hgp.out; exact ⟨a', ps, gap, lost, e1, e2, by omega, e4⟩), hJr.below hb5', hrs, hbr.trans (hb5'.mono hbr.size)⟩
          case measure => exact hms.out
        · have hz := cutP_fine (l := l) (S := S) (f := nx) (short := short) (by omega) hS0 hnx.out (by rw [hll]; exact hsz (by omega))
          obtain ⟨p0, _, _, p3, p4, p5⟩ := cutP_ok hz
          simp only [p4, p5, hz] at hcut
          have hfew := cutF_few (R := rgN short) (short := short) (f1 := true) (f := l.length) (n := nx) hS0 (Nat.le_refl _) p0 p3
          have hnum := cutF_num (R := rgN short) (short := short) hS0 (f1 := true) (f := l.length) (n := nx) (l := l) (Nat.le_refl _) hnx.out
          have hmost := cutF_most (R := rgN short) (size := S) (short := short) (f1 := true) (f := l.length) (n := nx) (l := l)
          have hlen := cutF_len (R := rgN short) (short := short) hS0 (f1 := true) (f := l.length) (n := nx) (l := l) (Nat.le_refl _)
          have hpos : 0 < (cutF (rgN short) S short l.length (flagN true false) nx l).1.length := by
            rw [hlen]
            exact Nat.div_pos (by omega) hS0
          clear hlen
          have hmid := fun L hX => hgp.out.mid (S := S) (l := l) (L := L) hnx.out hX
          generalize hX : cutF (rgN short) S short l.length (flagN true false) nx l = X at hcut hfew hnum hmost hmid hpos
          obtain ⟨L, nx2⟩ := X
          simp only at hcut hfew hnum hmost hmid hpos
          replace hmid := hmid L rfl
          obtain ⟨m, hm⟩ : ∃ m, L.length = m := ⟨_, rfl⟩
          have hm16 : m ≤ 16 := by omega
          have hm0 : Hid (¬ m = 0) := Lib.hid (by omega)
          have hnx2 : nx2 < rgN short := by rw [hnum]; exact Nat.mod_lt _ (rgN_pos _)
          rw [hm] at hnum
          replace hm := Lib.hid hm
          replace hnum := Lib.hid hnum
          replace hcut := Lib.hid hcut
          replace hmid := Lib.hid hmid
          replace hnx2 := Lib.hid hnx2
          replace hb0 := Lib.hid hb0
          clear hz p4 p5 hfew hX hpos
          go_wp2_with fail
          go_region_held3 (fun W => W.cell? ⟨g, o + i, none⟩ = some (.slice ba bn bc)) (first | exact ci | exact ci3) ((go_at_call 13; refine (hcut.out _ (hBl.below (hbr.drew) (Nat.le_refl _))).mono ?_; rintro e w5 ⟨v, rfl, hF, hb5⟩; have hb5' := below_of_drew hb5; have ci3 := ci2 _ hb5'; obtain ⟨av, cv, rfl⟩ := hF.slice; rw [hm.out] at hF ⊢))
          go_wp2_with fail
          have hw5 := hbr.trans (hb5'.mono hbr.size)
          have hJ5 := hJr.below hb5'
          have hl100 : l.length ≤ 100 := by omega
          replace hl100 := Lib.hid hl100
          clear hgp hcut
          have hcb : ∀ k, (Value.slice av m cv).ownBlock = some k → k < w5.heap.size := fun k hk => by
            obtain ⟨xs, e1, _⟩ := hF.ex
            exact (own_ownlt e1 hk).2
          replace hcb := Lib.hid hcb
          go_loopw [10, 15, 16, 17] (fun v10 v15 v16 v17 wr2 => ∃ (k at2 : Nat) (wh : Bool) (s2 : JS), k ≤ m ∧ v17 = .int .i64 k ∧ v15 = .bool wh ∧ v10 = .int .i64 at2 ∧ at2 ≤ 16 * i + k ∧ Hid (∃ n1 fu A l1, MidL s2 short l L S nx k n1 fu (16 * i + k) A l1 wh) ∧ Fr wr2 w5.heap.size v16 (if wh = true ∧ k = m then [l] else []) ∧
            Jo wr2 w1.heap.size (w1.heap.size + 1) w1.heap.size vl s2 ∧ Hid (Rest s2) ∧ Fr wr2 wr.heap.size (.slice av m cv) L ∧ Below w.heap.size w wr2 ∧ w5.heap.size ≤ wr2.heap.size) (fun _ _ _ v17 _ => m - (intOf v17).toNat)
          case atStart => exact ⟨0, at_, true, s, Nat.zero_le _, rfl, rfl, rfl, hat, Lib.hid ⟨_, _, _, _, hmid.out⟩, by rw [if_neg (fun e => hm0.out e.2.symm)]; exact Fr.nil _ _, hJ5, hrs, hF, hw5, Nat.le_refl _⟩
          case round =>
            obtain ⟨k, at2, wh, s2, hk, rfl, rfl, rfl, hat2, hmd, hgot, hJ2, hrs2, hF2, hbr2, hs52⟩ := hrel
            by_cases hltk : k < m
            · have hltkI : (k : Int) < (m : Int) := by omega
              have hms2 : m - (intOf (.int .i64 ((k : Int) + 1))).toNat < m - (intOf (.int .i64 (k : Int))).toNat := by simp [intOf]; omega
              replace hms2 := Lib.hid hms2
              rw [if_neg (by omega)] at hgot
              obtain ⟨ag, cg, rfl⟩ := hgot.none
              obtain ⟨n1, fu, A, l1, hmd'⟩ := hmd.out
              have hklt : k < L.length := by rw [hm.out]; exact hltk
              have hfl : (L.getD k []).length ≤ 2000 := by
                have := hmost (L.getD k []) (by rw [List.getD_eq_getElem?_getD, List.getElem?_eq_getElem hklt]; exact List.getElem_mem _)
                have := hl100.out
                omega
              obtain ⟨t, n2', hadd, hmd2⟩ := hmd'.add hS0 hklt (by rw [hm.out]; exact hm16) hl100.out
              obtain ⟨n3, hmiss⟩ := hmd'.miss hS0 hklt (by omega)
              rw [hm.out] at hadd
              have hm7 : ([] : List (List UInt8)).length + (if wh = true ∧ k + 1 = m then [l] else []).length ≤ 100000 := by split <;> simp
              obtain ⟨Lk, hLk⟩ : ∃ Lk, (if wh = true ∧ k + 1 = m then [l] else []) = Lk := ⟨_, rfl⟩
              rw [hLk] at hadd hm7
              replace hLk := Lib.hid hLk
              obtain ⟨g2, xa, xc, rfl, ci5, hBi⟩ := hF2.at_ (i := k) hklt (by omega)
              have hrt := Lib.hid (hadd.rest hrs2.out (by omega)).1
              have hmd3 : Hid (∃ n1 fu A l1, MidL t short l L S nx (k + 1) n1 fu (16 * i + (k + 1)) A l1 wh) := Lib.hid ⟨_, _, _, _, hmd2⟩
              have hmd4 : Hid (∃ n1 fu A l1, MidL s2 short l L S nx (k + 1) n1 fu (16 * i + (k + 1)) A l1 false) := Lib.hid ⟨_, _, _, _, hmiss⟩
              replace hadd := Lib.hid hadd
              clear hmd' hmd2 hmd hmiss
              generalize (L.getD k []).length = fl at *
              have hfl2 : Hid ((L.getD k []).length ≤ 100000) := Lib.hid (by rw [hBi.len]; omega)
              by_cases hal : at2 < n2
              · have halI : (at2 : Int) < (n2 : Int) := by omega
                obtain ⟨b3, o3, rfl, c3⟩ := (hB2.below hbr2 (Nat.le_refl _)).cell at2 hal
                have hub := (z2.getD at2 0).toNat_lt
                generalize (z2.getD at2 0).toNat = u at c3 hub
                have hand : bits .and .u8 (u : Int) 3 = ((u &&& 3 : Nat) : Int) := u8_and _ _ (by omega) (by omega) (by omega) (by omega)
                generalize u &&& 3 = zz at hand
                have hcap2 := hB2.cap
                have hmo2 := hB2.most
                by_cases hz3 : zz = 3
                · have hzI : ((zz : Int) == 3) = true := by rw [beq_iff_eq]; omega
                  replace hz3 := Lib.hid hz3
                  go_wp2_with fail
                  go_roundw
                  case rel => exact ⟨k + 1, at2 + 1, false, s2, by omega, rfl, rfl, rfl, by omega, hmd4, by rw [if_neg (by simp)]; exact hgot, hJ2, hrs2, hF2, hbr2, hs52⟩
                  case measure => exact hms2.out
                · have hzI : ((zz : Int) == 3) = false := by rw [beq_eq_false_iff_ne]; omega
                  replace hz3 := Lib.hid hz3
                  go_wp2_with (first | (go_at_call 15; refine (add_any 0 hJ2 hrs2.out hBi hfl2.out).mono ?_; rintro e w7 ⟨v7, L7, e7, t7, rfl, hR7, hJ7, hF7, hb7⟩; obtain ⟨rfl, rfl, rfl⟩ := hadd.out.one hR7; have hw7 := hJ2.under hbr2 hb1.size hb7; have hF27 := hF2.jo hJ2 hb7; have hgot7 := hgot.jo hJ2 hb7; obtain ⟨a7, c7, rfl⟩ := hF7.slice) | (at_builtin; go_must (refine wp_appF rfl _ _ rfl rfl hgot7 rfl (hF7.mono hs52) hm7 (Nat.le_trans hs52 hb7.size) ?_)))
                  intro v9 w9 hF9 hg9 hb9
                  obtain ⟨xs7, ho7, _⟩ := hgot7.ex
                  have hJ9 := hJ7.out ho7 (by decide) (by decide) (by decide) (ButOf.of_grown hg9 (fun _ e => e))
                  have hF29 := hF27.other ho7 hg9 (fun k hk e => by have e1 := hcb.out k hk; have e2 := (own_ownlt ho7 e).1; omega)
                  have hw9 := hw7.trans (hb9.mono hw5.size)
                  have hs9 := Nat.le_trans (Nat.le_trans hs52 hb7.size) hg9.size
                  obtain ⟨a9, c9, rfl⟩ := hF9.slice
                  clear hF7 hgot7 hF27 hJ7 ho7 hg9 hb9 hb7 hR7
                  go_wp2_with fail
                  go_roundw
                  case rel => exact ⟨k + 1, at2 + 1, wh, _, by omega, rfl, rfl, rfl, by omega, hmd3, by rw [hLk.out]; exact hF9, hJ9, hrt, hF29, hw9, hs9⟩
                  case measure => exact hms2.out
              · have halI : ¬ ((at2 : Int) < (n2 : Int)) := by omega
                go_wp2_with (first | (go_at_call 15; refine (add_any 0 hJ2 hrs2.out hBi hfl2.out).mono ?_; rintro e w7 ⟨v7, L7, e7, t7, rfl, hR7, hJ7, hF7, hb7⟩; obtain ⟨rfl, rfl, rfl⟩ := hadd.out.one hR7; have hw7 := hJ2.under hbr2 hb1.size hb7; have hF27 := hF2.jo hJ2 hb7; have hgot7 := hgot.jo hJ2 hb7; obtain ⟨a7, c7, rfl⟩ := hF7.slice) | (at_builtin; go_must (refine wp_appF rfl _ _ rfl rfl hgot7 rfl (hF7.mono hs52) hm7 (Nat.le_trans hs52 hb7.size) ?_)))
                intro v9 w9 hF9 hg9 hb9
                obtain ⟨xs7, ho7, _⟩ := hgot7.ex
                have hJ9 := hJ7.out ho7 (by decide) (by decide) (by decide) (ButOf.of_grown hg9 (fun _ e => e))
                have hF29 := hF27.other ho7 hg9 (fun k hk e => by have e1 := hcb.out k hk; have e2 := (own_ownlt ho7 e).1; omega)
                have hw9 := hw7.trans (hb9.mono hw5.size)
                have hs9 := Nat.le_trans (Nat.le_trans hs52 hb7.size) hg9.size
                obtain ⟨a9, c9, rfl⟩ := hF9.slice
                clear hF7 hgot7 hF27 hJ7 ho7 hg9 hb9 hb7 hR7
                go_wp2_with fail
                go_roundw
                case rel => exact ⟨k + 1, at2 + 1, wh, _, by omega, rfl, rfl, rfl, by omega, hmd3, by rw [hLk.out]; exact hF9, hJ9, hrt, hF29, hw9, hs9⟩
                case measure => exact hms2.out
            · have hke : k = m := by omega
              have hgap2 : Gap s2 short nx2 (16 * (i + 1)) := by
                obtain ⟨n1, fu, A, l1, hmd'⟩ := hmd.out
                rw [hke, ← hm.out] at hmd'
                obtain ⟨a', ps, gap, lost, e1, e2, e3, e4⟩ := hmd'.gap
                have := hm.out
                have hn' := hnum.out
                rw [← this] at hn'
                exact ⟨a', ps, gap, lost, e1, by rw [e2, hn'], by omega, e4⟩
              replace hgap2 := Lib.hid hgap2
              cases wh
              · rw [if_neg (by simp)] at hgot
                obtain ⟨ag, cg, rfl⟩ := hgot.none
                replace hke := Lib.hid hke
                clear hmd hgot hF2 hmid hF
                go_wp2_with fail
                refine wp_region_held_drew (S := fun _ => True) (by kernel_rfl) trivial (fun hHeld => ?_)
                refine held_take (i := 0) (v := ?_) rfl (by kernel_rfl) (by kernel_rfl) (by kernel_rfl) (fun _ _ _ h => h) (Or.inl ⟨by kernel_rfl, ?_⟩) (by assumption) ?_
                rotate_left
                · intro w hSw
                  (try dsimp only at hSw)
                  go_split_ands
                  go_simp
                  all_goals with_reducible rfl
                simp only [List.setIfInBounds_toArray, List.set_cons_zero, List.set_cons_succ]
                refine held_take (i := 1) (v := ?_) rfl (by kernel_rfl) (by kernel_rfl) (by kernel_rfl) (fun _ _ _ h => h) (Or.inl ⟨by kernel_rfl, ?_⟩) (by assumption) ?_
                rotate_left
                · intro w hSw
                  (try dsimp only at hSw)
                  go_split_ands
                  go_simp
                  all_goals with_reducible rfl
                simp only [List.setIfInBounds_toArray, List.set_cons_zero, List.set_cons_succ]
                refine held_take (i := 2) (v := undef) rfl (by kernel_rfl) (by kernel_rfl) (by kernel_rfl) (fun _ _ _ h => h) (Or.inr ⟨by kernel_rfl, rfl⟩) (by assumption) ?_
                simp only [List.setIfInBounds_toArray, List.set_cons_zero, List.set_cons_succ]
                refine held_take (i := 3) (v := undef) rfl (by kernel_rfl) (by kernel_rfl) (by kernel_rfl) (fun _ _ _ h => h) (Or.inr ⟨by kernel_rfl, rfl⟩) (by assumption) ?_
                simp only [List.setIfInBounds_toArray, List.set_cons_zero, List.set_cons_succ]
                refine held_take (i := 4) (v := undef) rfl (by kernel_rfl) (by kernel_rfl) (by kernel_rfl) (fun _ _ _ h => h) (Or.inr ⟨by kernel_rfl, rfl⟩) (by assumption) ?_
                simp only [List.setIfInBounds_toArray, List.set_cons_zero, List.set_cons_succ]
                refine held_take (i := 5) (v := undef) rfl (by kernel_rfl) (by kernel_rfl) (by kernel_rfl) (fun _ _ _ h => h) (Or.inr ⟨by kernel_rfl, rfl⟩) (by assumption) ?_
                simp only [List.setIfInBounds_toArray, List.set_cons_zero, List.set_cons_succ]
                refine held_take (i := 6) (v := undef) rfl (by kernel_rfl) (by kernel_rfl) (by kernel_rfl) (fun _ _ _ h => h) (Or.inr ⟨by kernel_rfl, rfl⟩) (by assumption) ?_
                simp only [List.setIfInBounds_toArray, List.set_cons_zero, List.set_cons_succ]
                refine held_take (i := 7) (v := undef) rfl (by kernel_rfl) (by kernel_rfl) (by kernel_rfl) (fun _ _ _ h => h) (Or.inr ⟨by kernel_rfl, rfl⟩) (by assumption) ?_
                simp only [List.setIfInBounds_toArray, List.set_cons_zero, List.set_cons_succ]
                refine held_take (i := 8) (v := undef) rfl (by kernel_rfl) (by kernel_rfl) (by kernel_rfl) (fun _ _ _ h => h) (Or.inr ⟨by kernel_rfl, rfl⟩) (by assumption) ?_
                simp only [List.setIfInBounds_toArray, List.set_cons_zero, List.set_cons_succ]
                refine held_take (i := 9) (v := undef) rfl (by kernel_rfl) (by kernel_rfl) (by kernel_rfl) (fun _ _ _ h => h) (Or.inr ⟨by kernel_rfl, rfl⟩) (by assumption) ?_
                simp only [List.setIfInBounds_toArray, List.set_cons_zero, List.set_cons_succ]
                refine held_take (i := 10) (v := undef) rfl (by kernel_rfl) (by kernel_rfl) (by kernel_rfl) (fun _ _ _ h => h) (Or.inr ⟨by kernel_rfl, rfl⟩) (by assumption) ?_
                simp only [List.setIfInBounds_toArray, List.set_cons_zero, List.set_cons_succ]
                refine held_take (i := 11) (v := undef) rfl (by kernel_rfl) (by kernel_rfl) (by kernel_rfl) (fun _ _ _ h => h) (Or.inr ⟨by kernel_rfl, rfl⟩) (by assumption) ?_
                simp only [List.setIfInBounds_toArray, List.set_cons_zero, List.set_cons_succ]
                refine held_take (i := 12) (v := undef) rfl (by kernel_rfl) (by kernel_rfl) (by kernel_rfl) (fun _ _ _ h => h) (Or.inr ⟨by kernel_rfl, rfl⟩) (by assumption) ?_
                simp only [List.setIfInBounds_toArray, List.set_cons_zero, List.set_cons_succ]
                refine held_take (i := 13) (v := undef) rfl (by kernel_rfl) (by kernel_rfl) (by kernel_rfl) (fun _ _ _ h => h) (Or.inr ⟨by kernel_rfl, rfl⟩) (by assumption) ?_
                simp only [List.setIfInBounds_toArray, List.set_cons_zero, List.set_cons_succ]
                refine held_take (i := 14) (v := undef) rfl (by kernel_rfl) (by kernel_rfl) (by kernel_rfl) (fun _ _ _ h => h) (Or.inr ⟨by kernel_rfl, rfl⟩) (by assumption) ?_
                simp only [List.setIfInBounds_toArray, List.set_cons_zero, List.set_cons_succ]
                refine held_take (i := 15) (v := undef) rfl (by kernel_rfl) (by kernel_rfl) (by kernel_rfl) (fun _ _ _ h => h) (Or.inr ⟨by kernel_rfl, rfl⟩) (by assumption) ?_
                simp only [List.setIfInBounds_toArray, List.set_cons_zero, List.set_cons_succ]
                refine held_take (i := 16) (v := ?_) rfl (by kernel_rfl) (by kernel_rfl) (by kernel_rfl) (fun _ _ _ h => h) (Or.inl ⟨by kernel_rfl, ?_⟩) (by assumption) ?_
                rotate_left
                · intro w hSw
                  (try dsimp only at hSw)
                  go_split_ands
                  go_simp
                  all_goals with_reducible rfl
                simp only [List.setIfInBounds_toArray, List.set_cons_zero, List.set_cons_succ]
                refine held_take (i := 17) (v := ?_) rfl (by kernel_rfl) (by kernel_rfl) (by kernel_rfl) (fun _ _ _ h => h) (Or.inl ⟨by kernel_rfl, ?_⟩) (by assumption) ?_
                rotate_left
                · intro w hSw
                  (try dsimp only at hSw)
                  go_split_ands
                  go_simp
                  all_goals with_reducible rfl
                simp only [List.setIfInBounds_toArray, List.set_cons_zero, List.set_cons_succ]
                refine held_take (i := 18) (v := ?_) rfl (by kernel_rfl) (by kernel_rfl) (by kernel_rfl) (fun _ _ _ h => h) (Or.inl ⟨by kernel_rfl, ?_⟩) (by assumption) ?_
                rotate_left
                · intro w hSw
                  (try dsimp only at hSw)
                  go_split_ands
                  go_simp
                  all_goals with_reducible rfl
                simp only [List.setIfInBounds_toArray, List.set_cons_zero, List.set_cons_succ]
                refine held_take (i := 19) (v := ?_) rfl (by kernel_rfl) (by kernel_rfl) (by kernel_rfl) (fun _ _ _ h => h) (Or.inl ⟨by kernel_rfl, ?_⟩) (by assumption) ?_
                rotate_left
                · intro w hSw
                  (try dsimp only at hSw)
                  go_split_ands
                  go_simp
                  all_goals with_reducible rfl
                simp only [List.setIfInBounds_toArray, List.set_cons_zero, List.set_cons_succ]
                refine held_take (i := 20) (v := ?_) rfl (by kernel_rfl) (by kernel_rfl) (by kernel_rfl) (fun _ _ _ h => h) (Or.inl ⟨by kernel_rfl, ?_⟩) (by assumption) ?_
                rotate_left
                · intro w hSw
                  (try dsimp only at hSw)
                  go_split_ands
                  go_simp
                  all_goals with_reducible rfl
                simp only [List.setIfInBounds_toArray, List.set_cons_zero, List.set_cons_succ]
                refine held_take (i := 21) (v := ?_) rfl (by kernel_rfl) (by kernel_rfl) (by kernel_rfl) (fun _ _ _ h => h) (Or.inl ⟨by kernel_rfl, ?_⟩) (by assumption) ?_
                rotate_left
                · intro w hSw
                  (try dsimp only at hSw)
                  go_split_ands
                  go_simp
                  all_goals with_reducible rfl
                simp only [List.setIfInBounds_toArray, List.set_cons_zero, List.set_cons_succ]
                refine held_take (i := 22) (v := ?_) rfl (by kernel_rfl) (by kernel_rfl) (by kernel_rfl) (fun _ _ _ h => h) (Or.inl ⟨by kernel_rfl, ?_⟩) (by assumption) ?_
                rotate_left
                · intro w hSw
                  (try dsimp only at hSw)
                  go_split_ands
                  go_simp
                  all_goals with_reducible rfl
                simp only [List.setIfInBounds_toArray, List.set_cons_zero, List.set_cons_succ]
                refine held_take (i := 23) (v := ?_) rfl (by kernel_rfl) (by kernel_rfl) (by kernel_rfl) (fun _ _ _ h => h) (Or.inl ⟨by kernel_rfl, ?_⟩) (by assumption) ?_
                rotate_left
                · intro w hSw
                  (try dsimp only at hSw)
                  go_split_ands
                  go_simp
                  all_goals with_reducible rfl
                simp only [List.setIfInBounds_toArray, List.set_cons_zero, List.set_cons_succ]
                refine held_take (i := 24) (v := ?_) rfl (by kernel_rfl) (by kernel_rfl) (by kernel_rfl) (fun _ _ _ h => h) (Or.inl ⟨by kernel_rfl, ?_⟩) (by assumption) ?_
                rotate_left
                · intro w hSw
                  (try dsimp only at hSw)
                  go_split_ands
                  go_simp
                  all_goals with_reducible rfl
                simp only [List.setIfInBounds_toArray, List.set_cons_zero, List.set_cons_succ]
                refine held_take (i := 25) (v := ?_) rfl (by kernel_rfl) (by kernel_rfl) (by kernel_rfl) (fun _ _ _ h => h) (Or.inl ⟨by kernel_rfl, ?_⟩) (by assumption) ?_
                rotate_left
                · intro w hSw
                  (try dsimp only at hSw)
                  go_split_ands
                  go_simp
                  all_goals with_reducible rfl
                simp only [List.setIfInBounds_toArray, List.set_cons_zero, List.set_cons_succ]
                refine wpAnyH_done (by kernel_rfl) ?_ _
                go_wp2_with fail
                go_roundw
                case rel => exact ⟨i + 1, nx2, at2, s2, by omega, rfl, rfl, rfl, by have := hke.out; omega, hnx2, hgap2, hJ2.below (Below.refl _ _).drew, hrs2, hbr2.drew⟩
                case measure => exact hms.out
              · rw [if_pos ⟨rfl, hke⟩] at hgot
                obtain ⟨gg, cg, xg, yg, rfl, cig, Bg⟩ := hgot.one (by have := hl100.out; omega)
                rw [hll] at cig Bg
                have ci9 := (hbr2.cell (p := ⟨g, o + i, none⟩) hg).trans ciw
                have hS1 : _ ∧ _ := ⟨cig, ci9⟩
                have hsm := same_any _ _ _ _ _ _ _ _ _ (Bg.below (Below.refl _ _).drew (Nat.le_refl _)) ((hBl.below hbr2 (Nat.le_refl _)).below (Below.refl _ _).drew (Nat.le_refl _))
                rw [decide_eq_true rfl] at hsm
                replace hsm := Lib.hid hsm
                replace hke := Lib.hid hke
                clear hmd hgot hF2 hmid hF
                go_wp2_with fail
                refine wp_region_held_drew (S := fun W => W.cell? ⟨gg, 0, none⟩ = some (.slice xg bn yg) ∧ W.cell? ⟨g, o + i, none⟩ = some (.slice ba bn bc)) (by kernel_rfl) hS1 (fun hHeld => ?_)
                refine held_take (i := 0) (v := ?_) rfl (by kernel_rfl) (by kernel_rfl) (by kernel_rfl) (fun _ _ _ h => h) (Or.inl ⟨by kernel_rfl, ?_⟩) (by assumption) ?_
                rotate_left
                · intro w hSw
                  (try dsimp only at hSw)
                  go_split_ands
                  go_simp
                  all_goals with_reducible rfl
                simp only [List.setIfInBounds_toArray, List.set_cons_zero, List.set_cons_succ]
                refine held_take (i := 1) (v := ?_) rfl (by kernel_rfl) (by kernel_rfl) (by kernel_rfl) (fun _ _ _ h => h) (Or.inl ⟨by kernel_rfl, ?_⟩) (by assumption) ?_
                rotate_left
                · intro w hSw
                  (try dsimp only at hSw)
                  go_split_ands
                  go_simp
                  all_goals with_reducible rfl
                simp only [List.setIfInBounds_toArray, List.set_cons_zero, List.set_cons_succ]
                refine held_take (i := 2) (v := ?_) rfl (by kernel_rfl) (by kernel_rfl) (by kernel_rfl) (fun _ _ _ h => h) (Or.inl ⟨by kernel_rfl, ?_⟩) (by assumption) ?_
                rotate_left
                · intro w hSw
                  (try dsimp only at hSw)
                  go_split_ands
                  go_simp
                  all_goals with_reducible rfl
                simp only [List.setIfInBounds_toArray, List.set_cons_zero, List.set_cons_succ]
                refine held_take (i := 3) (v := ?_) rfl (by kernel_rfl) (by kernel_rfl) (by kernel_rfl) (fun _ _ _ h => h) (Or.inl ⟨by kernel_rfl, ?_⟩) (by assumption) ?_
                rotate_left
                · intro w hSw
                  (try dsimp only at hSw)
                  go_split_ands
                  go_simp
                  all_goals with_reducible rfl
                simp only [List.setIfInBounds_toArray, List.set_cons_zero, List.set_cons_succ]
                refine held_take (i := 4) (v := ?_) rfl (by kernel_rfl) (by kernel_rfl) (by kernel_rfl) (fun _ _ _ h => h) (Or.inl ⟨by kernel_rfl, ?_⟩) (by assumption) ?_
                rotate_left
                · intro w hSw
                  (try dsimp only at hSw)
                  go_split_ands
                  go_simp
                  all_goals with_reducible rfl
                simp only [List.setIfInBounds_toArray, List.set_cons_zero, List.set_cons_succ]
                refine held_take (i := 5) (v := ?_) rfl (by kernel_rfl) (by kernel_rfl) (by kernel_rfl) (fun _ _ _ h => h) (Or.inl ⟨by kernel_rfl, ?_⟩) (by assumption) ?_
                rotate_left
                · intro w hSw
                  (try dsimp only at hSw)
                  go_split_ands
                  go_simp
                  all_goals with_reducible rfl
                simp only [List.setIfInBounds_toArray, List.set_cons_zero, List.set_cons_succ]
                refine held_take (i := 6) (v := ?_) rfl (by kernel_rfl) (by kernel_rfl) (by kernel_rfl) (fun _ _ _ h => h) (Or.inl ⟨by kernel_rfl, ?_⟩) (by assumption) ?_
                rotate_left
                · intro w hSw
                  (try dsimp only at hSw)
                  go_split_ands
                  go_simp
                  all_goals with_reducible rfl
                simp only [List.setIfInBounds_toArray, List.set_cons_zero, List.set_cons_succ]
                refine held_take (i := 7) (v := ?_) rfl (by kernel_rfl) (by kernel_rfl) (by kernel_rfl) (fun _ _ _ h => h) (Or.inl ⟨by kernel_rfl, ?_⟩) (by assumption) ?_
                rotate_left
                · intro w hSw
                  (try dsimp only at hSw)
                  go_split_ands
                  go_simp
                  all_goals with_reducible rfl
                simp only [List.setIfInBounds_toArray, List.set_cons_zero, List.set_cons_succ]
                refine held_take (i := 8) (v := ?_) rfl (by kernel_rfl) (by kernel_rfl) (by kernel_rfl) (fun _ _ _ h => h) (Or.inl ⟨by kernel_rfl, ?_⟩) (by assumption) ?_
                rotate_left
                · intro w hSw
                  (try dsimp only at hSw)
                  go_split_ands
                  go_simp
                  all_goals with_reducible rfl
                simp only [List.setIfInBounds_toArray, List.set_cons_zero, List.set_cons_succ]
                refine held_take (i := 9) (v := ?_) rfl (by kernel_rfl) (by kernel_rfl) (by kernel_rfl) (fun _ _ _ h => h) (Or.inl ⟨by kernel_rfl, ?_⟩) (by assumption) ?_
                rotate_left
                · intro w hSw
                  (try dsimp only at hSw)
                  go_split_ands
                  go_simp
                  all_goals with_reducible rfl
                simp only [List.setIfInBounds_toArray, List.set_cons_zero, List.set_cons_succ]
                refine held_take (i := 10) (v := ?_) rfl (by kernel_rfl) (by kernel_rfl) (by kernel_rfl) (fun _ _ _ h => h) (Or.inl ⟨by kernel_rfl, ?_⟩) (by assumption) ?_
                rotate_left
                · intro w hSw
                  (try dsimp only at hSw)
                  go_split_ands
                  go_simp
                  all_goals with_reducible rfl
                simp only [List.setIfInBounds_toArray, List.set_cons_zero, List.set_cons_succ]
                refine held_take (i := 11) (v := ?_) rfl (by kernel_rfl) (by kernel_rfl) (by kernel_rfl) (fun _ _ _ h => h) (Or.inl ⟨by kernel_rfl, ?_⟩) (by assumption) ?_
                rotate_left
                · intro w hSw
                  (try dsimp only at hSw)
                  go_split_ands
                  go_simp
                  all_goals with_reducible rfl
                simp only [List.setIfInBounds_toArray, List.set_cons_zero, List.set_cons_succ]
                refine held_take (i := 12) (v := ?_) rfl (by kernel_rfl) (by kernel_rfl) (by kernel_rfl) (fun _ _ _ h => h) (Or.inl ⟨by kernel_rfl, ?_⟩) (by assumption) ?_
                rotate_left
                · intro w hSw
                  (try dsimp only at hSw)
                  go_split_ands
                  go_simp
                  all_goals with_reducible rfl
                simp only [List.setIfInBounds_toArray, List.set_cons_zero, List.set_cons_succ]
                refine wpAnyH_ready (rs := [13]) (by kernel_rfl) (by simp) ?_
                refine AllReadyH.cons rfl (fun K hK => ?_) AllReadyH.nil
                go_simp
                go_wp2_with (go_at_call 16; refine hsm.out.mono ?_; rintro e w9 ⟨rfl, hb9⟩; have hb9' := below_of_drew hb9; have hS2 : _ ∧ _ := ⟨(hb9'.cell (p := ⟨gg, 0, none⟩) (World.block_lt_of_cell? _ _ cig)).trans cig, (hb9'.cell (p := ⟨g, o + i, none⟩) (World.block_lt_of_cell? _ _ ci9)).trans ci9⟩)
                refine hK.out _ _ ?_ (fun hHeld => ?_)
                · exact hS2
                clear hK K
                refine held_take (i := 14) (v := ?_) rfl (by kernel_rfl) (by kernel_rfl) (by kernel_rfl) (fun _ _ _ h => h) (Or.inl ⟨by kernel_rfl, ?_⟩) (by assumption) ?_
                rotate_left
                · intro w hSw
                  (try dsimp only at hSw)
                  go_split_ands
                  go_simp
                  all_goals with_reducible rfl
                simp only [List.setIfInBounds_toArray, List.set_cons_zero, List.set_cons_succ]
                refine held_take (i := 15) (v := ?_) rfl (by kernel_rfl) (by kernel_rfl) (by kernel_rfl) (fun _ _ _ h => h) (Or.inl ⟨by kernel_rfl, ?_⟩) (by assumption) ?_
                rotate_left
                · intro w hSw
                  (try dsimp only at hSw)
                  go_split_ands
                  go_simp
                  all_goals with_reducible rfl
                simp only [List.setIfInBounds_toArray, List.set_cons_zero, List.set_cons_succ]
                refine held_take (i := 16) (v := ?_) rfl (by kernel_rfl) (by kernel_rfl) (by kernel_rfl) (fun _ _ _ h => h) (Or.inl ⟨by kernel_rfl, ?_⟩) (by assumption) ?_
                rotate_left
                · intro w hSw
                  (try dsimp only at hSw)
                  go_split_ands
                  go_simp
                  all_goals with_reducible rfl
                simp only [List.setIfInBounds_toArray, List.set_cons_zero, List.set_cons_succ]
                refine held_take (i := 17) (v := ?_) rfl (by kernel_rfl) (by kernel_rfl) (by kernel_rfl) (fun _ _ _ h => h) (Or.inl ⟨by kernel_rfl, ?_⟩) (by assumption) ?_
                rotate_left
                · intro w hSw
                  (try dsimp only at hSw)
                  go_split_ands
                  go_simp
                  all_goals with_reducible rfl
                simp only [List.setIfInBounds_toArray, List.set_cons_zero, List.set_cons_succ]
                refine held_take (i := 18) (v := ?_) rfl (by kernel_rfl) (by kernel_rfl) (by kernel_rfl) (fun _ _ _ h => h) (Or.inl ⟨by kernel_rfl, ?_⟩) (by assumption) ?_
                rotate_left
                · intro w hSw
                  (try dsimp only at hSw)
                  go_split_ands
                  go_simp
                  all_goals with_reducible rfl
                simp only [List.setIfInBounds_toArray, List.set_cons_zero, List.set_cons_succ]
                refine held_take (i := 19) (v := ?_) rfl (by kernel_rfl) (by kernel_rfl) (by kernel_rfl) (fun _ _ _ h => h) (Or.inl ⟨by kernel_rfl, ?_⟩) (by assumption) ?_
                rotate_left
                · intro w hSw
                  (try dsimp only at hSw)
                  go_split_ands
                  go_simp
                  all_goals with_reducible rfl
                simp only [List.setIfInBounds_toArray, List.set_cons_zero, List.set_cons_succ]
                refine held_take (i := 20) (v := ?_) rfl (by kernel_rfl) (by kernel_rfl) (by kernel_rfl) (fun _ _ _ h => h) (Or.inl ⟨by kernel_rfl, ?_⟩) (by assumption) ?_
                rotate_left
                · intro w hSw
                  (try dsimp only at hSw)
                  go_split_ands
                  go_simp
                  all_goals with_reducible rfl
                simp only [List.setIfInBounds_toArray, List.set_cons_zero, List.set_cons_succ]
                refine held_take (i := 21) (v := undef) rfl (by kernel_rfl) (by kernel_rfl) (by kernel_rfl) (fun _ _ _ h => h) (Or.inr ⟨by kernel_rfl, rfl⟩) (by assumption) ?_
                simp only [List.setIfInBounds_toArray, List.set_cons_zero, List.set_cons_succ]
                refine held_take (i := 22) (v := undef) rfl (by kernel_rfl) (by kernel_rfl) (by kernel_rfl) (fun _ _ _ h => h) (Or.inr ⟨by kernel_rfl, rfl⟩) (by assumption) ?_
                simp only [List.setIfInBounds_toArray, List.set_cons_zero, List.set_cons_succ]
                refine held_take (i := 23) (v := undef) rfl (by kernel_rfl) (by kernel_rfl) (by kernel_rfl) (fun _ _ _ h => h) (Or.inr ⟨by kernel_rfl, rfl⟩) (by assumption) ?_
                simp only [List.setIfInBounds_toArray, List.set_cons_zero, List.set_cons_succ]
                refine held_take (i := 24) (v := ?_) rfl (by kernel_rfl) (by kernel_rfl) (by kernel_rfl) (fun _ _ _ h => h) (Or.inl ⟨by kernel_rfl, ?_⟩) (by assumption) ?_
                rotate_left
                · intro w hSw
                  (try dsimp only at hSw)
                  go_split_ands
                  go_simp
                  all_goals with_reducible rfl
                simp only [List.setIfInBounds_toArray, List.set_cons_zero, List.set_cons_succ]
                refine held_take (i := 25) (v := ?_) rfl (by kernel_rfl) (by kernel_rfl) (by kernel_rfl) (fun _ _ _ h => h) (Or.inl ⟨by kernel_rfl, ?_⟩) (by assumption) ?_
                rotate_left
                · intro w hSw
                  (try dsimp only at hSw)
                  go_split_ands
                  go_simp
                  all_goals with_reducible rfl
                simp only [List.setIfInBounds_toArray, List.set_cons_zero, List.set_cons_succ]
                refine wpAnyH_done (by kernel_rfl) ?_ _
                go_wp2_with fail
                go_roundw
                case rel => exact ⟨i + 1, nx2, at2, s2, by omega, rfl, rfl, rfl, by have := hke.out; omega, hnx2, hgap2, hJ2.below hb9', hrs2, hbr2.trans (hb9'.mono hbr2.size)⟩
                case measure => exact hms.out
    · have hie : i = n := by omega
      replace hie := Lib.hid hie
      go_wp2_with fail
      go_ret
      exact ⟨rfl, hbr⟩
end Go.Proofs.Ytglmlhbchfgliaa
