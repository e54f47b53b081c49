/-
  MultiBack: the walk. No conditions.
-/
import Derived.Test.YtglmlhbchfgliaaMuDeal
import Derived.Test.YtglmlhbchfgliaaMuQs
import Derived.Test.YtglmlhbchfgliaaMuTwins
import Derived.Test.YtglmlhbchfgliaaMuSame
import Derived.Test.YtglmlhbchfgliaaRowsIn
import Derived.Test.YtglmlhbchfgliaaZed
namespace Go.Proofs.Ytglmlhbchfgliaa
open Go.RowKit Go.Maps
theorem cutP_sound {l : List UInt8} {S f : Nat} {short : Bool} (h0 : 0 < l.length) (hS : 0 < S) (hf : f < rgN short) (hsz : (l.length - 1) / S < 16) : cutP l S f short = ((cutF (rgN short) S short l.length (flagN true false) f l).1, (cutF (rgN short) S short l.length (flagN true false) f l).2, 0) := by
  unfold cutP
  rw [if_neg (by omega), if_neg (by rw [Int.toNat_natCast]; omega)]
  rfl
theorem back_size {n : Nat} (h1 : 1 ≤ n) : (n - 1) / (1 + n / 5) < 16 := by
  rw [Nat.div_lt_iff_lt_mul (by omega)]
  omega
set_option maxRecDepth 100000 in
/-- too many rows -/
theorem back_out {w : World} (a a2 : Option Addr) (n c n2 c2 : Nat) (kind : Int) (hn : 8 < n ∨ 300 < n2) :
    Calls Try.prog 7 #[.slice a n c, .int .u8 kind, .slice a2 n2 c2] w fun e w' => e = .returned (.bool true) ∧ Below w.heap.size w w' := by
  by_cases h1 : 8 < n
  · have h1I : (8 : Int) < (n : Int) := by omega
    go_enter Try.func7, Try.ntmps7
    go_wp2_with (go_at_call 12; refine (awake_any w).mono ?_; rintro e w1 ⟨rfl, hb1⟩)
    go_ret
    exact ⟨rfl, hb1⟩
  · have h1I : (n : Int) ≤ 8 := by omega
    have h2I : (300 : Int) < (n2 : Int) := by omega
    go_enter Try.func7, Try.ntmps7
    go_wp2_with (go_at_call 12; refine (awake_any w).mono ?_; rintro e w1 ⟨rfl, hb1⟩)
    go_ret
    exact ⟨rfl, hb1⟩
/-- link j0 has one fragment more: what stands then -/
theorem back_post {w0 w2 w w' : World} {B S gq links j0 lq m n cv cw kk fl cq gf : Nat} {qs : Nat → Value} {rows : Nat → List (List UInt8)} {aq aw : Option Addr} {xs : List Value} {x v' : Value} {L D : List (List UInt8)}
    (hQ : Qs w B gq links qs rows) (hj : j0 < links) (hqe : qs j0 = .slice aq lq cq) (hlq : (rows j0).length = lq) (o1 : w.ownsRow B 27 1 (.slice aq lq cq) lq xs) (o2 : Each w B xs (rows j0)) (hx : w.ownsRow B 5 1 x fl ((L.getD kk []).map bv)) (hfl : (L.getD kk []).length = fl)
    (hF : Fr w S (.slice (some ⟨gf, 0, none⟩) m cv) L) (hW : Wn w0 w B (.slice aw n cw) D) (hsW : SepV qs links (.slice aw n cw)) (hsF : SepV qs links (.slice (some ⟨gf, 0, none⟩) m cv)) (hb : Below B w2 w) (hB : B ≤ w.heap.size)
    (ho : w'.ownsRow B 27 1 v' (lq + 1) (xs ++ [x])) (hg : w.grownBy w' (Value.slice aq lq cq).ownBlock) (hn : Next w (.slice aq lq cq) v') :
    (∃ cs, Blk w' gq cs 23) ∧ (w'.cell? ⟨gq, j0, none⟩ = some (.slice aq lq cq) ∧ w'.cell? ⟨gf, kk, none⟩ = w.cell? ⟨gf, kk, none⟩) ∧
      Qs (w'.setCell ⟨gq, j0, none⟩ v') B gq links (updV qs j0 v') (updR rows j0 (L.getD kk [])) ∧ SepV (updV qs j0 v') links (.slice aw n cw) ∧ SepV (updV qs j0 v') links (.slice (some ⟨gf, 0, none⟩) m cv) ∧
      Fr (w'.setCell ⟨gq, j0, none⟩ v') S (.slice (some ⟨gf, 0, none⟩) m cv) L ∧ Wn w0 (w'.setCell ⟨gq, j0, none⟩ v') B (.slice aw n cw) D ∧ Below B w2 (w'.setCell ⟨gq, j0, none⟩ v') ∧ w.heap.size ≤ (w'.setCell ⟨gq, j0, none⟩ v').heap.size := by
  subst hlq
  subst hfl
  have hbt : ButOf (fun k => (Value.slice aq (rows j0).length cq).ownBlock = some k) w w' := ButOf.of_grown hg (fun _ e => e)
  have hrow := own_but hQ.row hbt (fun k hk => own_own_ne hQ.row o1 (by decide) hk)
  have hgf : gf < w.heap.size := by
    obtain ⟨ys, h1, _⟩ := hF.ex
    exact (own_ownlt h1 (k := gf) rfl).2
  rw [← hqe] at o1 hg hn hbt
  have hQg := hQ.grow hj o1 o2 hx ho hg hn
  have hcell : w'.cell? ⟨gq, j0, none⟩ = some (qs j0) := by
    have := World.ownsRow.cellAt hrow j0 (by omega)
    rw [range_cell hj] at this
    exact this
  have hb1 := below_grown hb o1 hg hB
  have hb2 : ButOf (fun k => k = gq) w' (w'.setCell ⟨gq, j0, none⟩ v') := (ButOf.refl _ w').set _ (Or.inl rfl)
  refine ⟨own_blk hrow, ⟨by rw [hcell, hqe], World.cell?_of_block (hbt.block gf hgf (fun e => hsF j0 gf hj e rfl))⟩, hQg, hsW.grow hj (fun k hk => (hW.lt hk).2) hn, hsF.grow hj (fun k hk => ?_) hn, (hF.oth o1 hg (fun k hk e => hsF j0 k hj e hk)).setq hrow, (hW.but hbt (fun k hk e => hsW j0 k hj e hk)).setq hrow, hb1.setCell (p := ⟨gq, j0, none⟩) hQ.lt.1 v', Nat.le_trans hg.size hb2.size⟩
  obtain ⟨ys, h1, _⟩ := hF.ex
  exact (own_ownlt h1 hk).2
set_option maxRecDepth 100000 in
set_option maxHeartbeats 4000000 in
theorem back_in {w : World} {a a2 : Option Addr} {n c n2 c2 : Nat} {f : Nat → RowV} {z2 : List UInt8} (k : Nat) (h : Rws w a n c f) (hB2 : Bts w a2 n2 c2 z2) (hn : n ≤ 8) (hn2 : n2 ≤ 300) (hk : k < 256) :
    Calls Try.prog 7 #[.slice a n c, .int .u8 (k : Nat), .slice a2 n2 c2] w fun e w' => e = .returned (.bool true) ∧ Below w.heap.size w w' := by
  have hnI : (n : Int) ≤ 8 := by omega
  have hn2I : (n2 : Int) ≤ 300 := by omega
  have hcap := h.cap
  have hmo := h.most
  have hkb := kind_bit hk
  have hkI : (k : Int) ≤ 255 := by omega
  obtain ⟨k2, hk2⟩ : ∃ k2, k / 2 = k2 := ⟨_, rfl⟩
  obtain ⟨r, hr⟩ : ∃ r, k2 % 3 = r := ⟨_, rfl⟩
  obtain ⟨links, hlk⟩ : ∃ x, 1 + r = x := ⟨_, rfl⟩
  have hk2I : (k : Int) / 2 = (k2 : Int) := by omega
  have hk2b : (k2 : Int) ≤ 200 := by omega
  have hrI : (k2 : Int).tmod 3 = (r : Int) := by rw [Int.tmod_eq_emod_of_nonneg (by omega)]; omega
  have hlkI : (1 : Int) + (r : Int) = (links : Int) := by omega
  have hl1 : 1 ≤ links ∧ links ≤ 3 := by omega
  have hl1I : (1 : Int) ≤ (links : Int) := by omega
  have hl3I : (links : Int) ≤ 3 := by omega
  have hlz : ((links : Int) == 0) = false := by rw [beq_eq_false_iff_ne]; omega
  have hmkq := run_mkQ links (by omega)
  replace hk2 := Lib.hid hk2
  replace hr := Lib.hid hr
  replace hlk := Lib.hid hlk
  generalize k &&& 1 = z at hkb
  generalize hzy : ((z : Int) == 1) = y
  have hnew := fun W => new_any (w := W) links 4096 y hl1.1 (by omega) (by decide) (by decide)
  replace hnew := Lib.hid hnew
  have hrest := newJ_rest links 4096 y hl1.1 (by omega)
  replace hrest := Lib.hid hrest
  obtain ⟨ir, hir, hy0, hy1, hy2⟩ := info_parts info_rows
  replace hir := Lib.hid hir
  go_enter Try.func7, Try.ntmps7
  go_wp2_with (first | (go_at_call 12; refine (awake_any w).mono ?_; rintro e w1 ⟨rfl, hb1⟩) | (go_at_call 14; refine (hnew.out w1).mono ?_; rintro e w2 ⟨vl, rfl, hJ, hb2⟩))
  have hb12 := hb1.trans (hb2.mono hb1.size)
  have hQ0 := Qs.made w2 links (by omega)
  have hb20 := below_alloc (Below.refl w2.heap.size w2) (.cells (List.replicate links (Value.slice none 0 0)).toArray 23) (Nat.le_refl _)
  clear hnew hmkq
  go_loopw [12, 13, 14] (fun v12 v13 v14 wr => ∃ (i T : Nat) (F : List (List UInt8)) (P : List Pc) (G : List (List Pc)) (D : List (List UInt8)) (idx : Nat → List Nat) (lk : Nat → Nat) (qs : Nat → Value), i ≤ n ∧ v14 = .int .i64 i ∧ v12 = .int .i64 T ∧ T ≤ 5 * i ∧ D.length ≤ i ∧ Hid (Cuts y F P G D) ∧ Hid (P.length = T) ∧ Hid (Deal links T idx lk) ∧
    Qs wr w2.heap.size w2.heap.size links qs (fun j => (idx j).map fun x => F.getD x []) ∧ Wn w wr w2.heap.size v13 D ∧ SepV qs links v13 ∧ Below w2.heap.size w2 wr) (fun _ _ v14 _ => n - (intOf v14).toNat)
  case atStart => exact ⟨0, 0, [], [], [], [], _, _, _, Nat.zero_le _, rfl, rfl, Nat.zero_le _, Nat.zero_le _, Lib.hid (Cuts.nil y), Lib.hid rfl, Lib.hid Deal.nil, hQ0, Wn.nil _ _ _, fun _ _ _ h => (by cases h), hb20⟩
  case round =>
    obtain ⟨i, T, F, P, G, D, idx, lk, qs, hi, rfl, rfl, hT, hDi, hcuts, hPT, hdl, hQr, hWr, hsW, hbwr⟩ := hrel
    have hbw := hb12.trans (hbwr.mono hb12.size)
    by_cases hlt : i < n
    · have hltI : (i : Int) < (n : Int) := by omega
      have hiI : (i : Int) ≤ 8 := by omega
      have hms : n - (intOf (.int .i64 ((i : Int) + 1))).toNat < n - (intOf (.int .i64 (i : Int))).toNat := by simp [intOf]; omega
      replace hms := Lib.hid hms
      obtain ⟨g, o, rfl, hg, ci⟩ := h.at_ hbw hlt
      have ciw := (hbw.cell (p := ⟨g, o + i, none⟩) hg).symm.trans ci
      have hle := h.len hlt
      by_cases hbn : 100 < (f i).bn
      · have hbnI : (100 : Int) < ((f i).bn : Int) := by omega
        generalize (f i).bn = bn at *
        go_wp2_with fail
        go_ret
        exact ⟨rfl, hbw⟩
      · have hBl := h.bts hlt (by omega)
        have hbnI : ((f i).bn : Int) ≤ 100 := by omega
        have hll := hBl.len
        have hbnN : (f i).bn ≤ 100 := by omega
        generalize (f i).bytes = l at hBl hll
        generalize (f i).bn = bn at *
        generalize (f i).ba = ba at *
        generalize (f i).bc = bc at *
        obtain ⟨S, hS⟩ : ∃ S, 1 + bn / 5 = S := ⟨_, rfl⟩
        have hS0 : 0 < S := by omega
        have hSb : S ≤ 100 := by omega
        obtain ⟨q, hq⟩ : ∃ q, bn / 5 = q := ⟨_, rfl⟩
        have hq1 : (bn : Int).tdiv 5 = (q : Int) := by rw [Int.tdiv_eq_ediv_of_nonneg (by omega)]; omega
        have hq2 : (bn : Int) / 5 = (q : Int) := by omega
        have hSq : (1 : Int) + (q : Int) = (S : Int) := by omega
        have hcut := fun W hW => cut_any (w := W) (a := ba) (n := bn) (c := bc) (l := l) S T y hW (by omega) (by omega)
        have hqw : IntKind.i64.wrap (q : Int) = (q : Int) := by rw [IntKind.wrap_i64]; omega
        have hSx : IntKind.i64.wrap (S : Int) = (S : Int) := by rw [IntKind.wrap_i64]; omega
        have hSw : IntKind.i64.wrap (1 + (q : Int)) = (S : Int) := by rw [IntKind.wrap_i64]; omega
        have hsz := fun h1 => back_size (n := bn) h1
        rw [hS] at hsz
        have hpf := fun (e : l.length = bn) => cutPc_few (l := l) (by omega)
        rw [hll, hS] at hpf
        replace hpf := hpf rfl
        replace hq := Lib.hid hq
        replace hS := Lib.hid hS
        have ci2 := fun W (hW : Below wr.heap.size wr W) => (hW.cell (p := ⟨g, o + i, none⟩) (World.block_lt_of_cell? _ _ ci)).trans ci
        by_cases hb0 : bn = 0
        · have hl0 : l = [] := List.eq_nil_of_length_eq_zero (by omega)
          have hcz : cutP l S T y = ([], 0, 1) := by subst hl0; simp [cutP]
          rw [hcz] at hcut
          replace hcut := Lib.hid hcut
          replace hb0 := Lib.hid hb0
          clear hcz hl0
          go_wp2_with fail
          go_region_held3 (fun W => W.cell? ⟨g, o + i, none⟩ = some (.slice ba bn bc)) (first | exact ci | exact ci3) ((go_at_call 13; refine (hcut.out _ (hBl.below (hbw.drew) (Nat.le_refl _))).mono ?_; rintro e w5 ⟨v, rfl, hF, hb5⟩; have hb5' := below_of_drew hb5; have ci3 := ci2 _ hb5'; obtain ⟨av, cv, rfl⟩ := (hF.slice : ∃ a c, v = .slice a 0 c)))
          go_wp2_with fail
          go_roundw
          case rel => exact ⟨i + 1, T, F, P, G, D, idx, lk, qs, by omega, rfl, rfl, by omega, by omega, hcuts, hPT, hdl, hQr.below hb5', hWr.below hb5', hsW, hbwr.trans (hb5'.mono hbwr.size)⟩
          case measure => exact hms.out
        · have hRb := rgN_big y
          have hcf := cutP_sound (l := l) (S := S) (f := T) (short := y) (by omega) hS0 (by omega) (by rw [hll]; exact hsz (by omega))
          have hsn := hcuts.out.snoc (l := l) (S := S) hS0 (by omega) (by omega) (by rw [hPT.out, hll]; omega)
          rw [hPT.out] at hsn
          have hpos : 0 < (cutPc S l.length true l).length := List.length_pos_iff.2 (gram_cut hS0 (by omega) (by omega)).ne
          simp only [hcf] at hcut
          generalize hX : cutF (rgN y) S y l.length (flagN true false) T l = X at hcut hsn
          obtain ⟨L, nx2⟩ := X
          simp only at hcut hsn
          obtain ⟨hcuts2, hnx2, hLl⟩ := hsn
          have hFT := Lib.hid (hcuts.out.len.trans hPT.out)
          rw [hll] at hLl hnx2 hcuts2 hpos
          obtain ⟨m, hm⟩ : ∃ m, L.length = m := ⟨_, rfl⟩
          rw [← hLl, hm] at hpf hpos hnx2
          have hnx3 : nx2 = T + m := hnx2
          subst hnx3
          have hlen2 : Hid ((P ++ cutPc S bn true l).length = T + m) := Lib.hid (by rw [List.length_append, hPT.out, ← hLl, hm])
          have hmI : (m : Int) ≤ 16 := by omega
          have hTI : (T : Int) ≤ 40 := by omega
          replace hm := Lib.hid hm
          replace hcut := Lib.hid hcut
          replace hb0 := Lib.hid hb0
          replace hcuts2 := Lib.hid hcuts2
          clear hcf hX hLl hnx2 hsz
          go_wp2_with fail
          go_region_held3 (fun W => W.cell? ⟨g, o + i, none⟩ = some (.slice ba bn bc)) (first | exact ci | exact ci3) ((go_at_call 13; refine (hcut.out _ (hBl.below (hbw.drew) (Nat.le_refl _))).mono ?_; rintro e w5 ⟨v, rfl, hF, hb5⟩; have hb5' := below_of_drew hb5; have ci3 := ci2 _ hb5'; obtain ⟨av, cv, rfl⟩ := hF.slice; rw [hm.out] at hF ⊢))
          obtain ⟨SB, hSB⟩ : ∃ SB, wr.heap.size = SB := ⟨_, rfl⟩
          replace hF : Fr w5 wr.heap.size (.slice av m cv) L := hF
          have hSB2 : w2.heap.size ≤ SB := by rw [← hSB]; exact hbwr.size
          have hQ5 := hQr.below hb5'
          have hW5 := hWr.below hb5'
          have hw5 := hbwr.trans (hb5'.mono hbwr.size)
          have hsF0 : SepV qs links (.slice av m cv) := fun j x hj h1 h2 => by
            have e1 := (hQr.blk_lt hj h1).2
            obtain ⟨ys, e2, _⟩ := hF.ex
            have e3 := (own_ownlt e2 h2).1
            omega
          obtain ⟨aw0, cw0, rfl⟩ := hWr.slice
          obtain ⟨xw, ow, hxw⟩ := hW5.ex
          have hm1 : D.length + 1 ≤ maxLen := by unfold maxLen; omega
          have hm2 : (D.length + 1) * 24 ≤ 140737488355328 := by omega
          have hszw := hw5.size
          have hWlt := fun x (hx : (Value.slice aw0 D.length cw0).ownBlock = some x) => (hWr.lt hx).2
          clear hcuts hPT
          go_wp2_with (at_builtin; go_must (refine wp_app1_at rfl _ _ 23 rfl w2.heap.size 27 ir _ 24 Try.underlying23 hir.out hy0 hy1 hy2 rfl _ _ _ rfl ow (.slice ba bn bc) rfl rfl hm1 hm2 hszw ?_))
          intro v6 w6 ho6 hg6 hn6
          obtain ⟨aw, cw, rfl⟩ := own_slice ho6
          have hQ6 := hQ5.other ow hg6 hsW
          have hF6 := hF.oth ow hg6 (fun x hx e => by
            have e1 := hWlt x e
            obtain ⟨ys, e2, _⟩ := hF.ex
            have e3 := (own_ownlt e2 hx).1
            omega)
          rw [hSB] at hF6
          have hW6 : Wn w w6 w2.heap.size (.slice aw (D.length + 1) cw) (D ++ [l]) := ⟨xw ++ [.slice ba bn bc], own_congr ho6 (by simp) rfl, hxw.snoc ⟨ba, bn, bc, rfl, hBl⟩⟩
          have hsW6 := hsW.moved (fun j x hj hx => (hQ5.blk_lt hj hx).2) hn6
          have hb26 := below_grown hw5 ow hg6 hszw
          have hs56 := hg6.size
          have hQ6 := hQ6.congr (rows' := fun j => (idx j).map fun x => (F ++ L).getD x []) (fun j hj => map_ext (fun x hx => by rw [hFT.out]; exact (hdl.out.inn j x hj hx).1))
          have hDl : Hid ((D ++ [l]).length = D.length + 1) := Lib.hid (by simp)
          clear hQ5 hW5 ow hxw ho6 hg6 hn6 hF hQr hWr hsW hcut ci ci3 hw5 hWlt hB2 h
          go_wp2_with fail
          go_loopw [18] (fun v18 wr2 => ∃ (kk : Nat) (idx2 : Nat → List Nat) (lk2 : Nat → Nat) (qs2 : Nat → Value), kk ≤ m ∧ v18 = .int .i64 kk ∧ Hid (Deal links (T + kk) idx2 lk2) ∧ Qs wr2 w2.heap.size w2.heap.size links qs2 (fun j => (idx2 j).map fun x => (F ++ L).getD x []) ∧
            SepV qs2 links (.slice aw (D.length + 1) cw) ∧ SepV qs2 links (.slice av m cv) ∧ Fr wr2 SB (.slice av m cv) L ∧ Wn w wr2 w2.heap.size (.slice aw (D.length + 1) cw) (D ++ [l]) ∧ Below w2.heap.size w2 wr2 ∧ w5.heap.size ≤ wr2.heap.size) (fun v18 _ => m - (intOf v18).toNat)
          case atStart => exact ⟨0, idx, lk, qs, Nat.zero_le _, rfl, hdl, hQ6, hsW6, hsF0, hF6, hW6, hb26, hs56⟩
          case round =>
            obtain ⟨kk, idx2, lk2, qs2, hkk, rfl, hdl2, hQ, hsW2, hsF2, hFr, hWn, hb2r, hs52⟩ := hrel
            by_cases hltk : kk < m
            · have hltkI : (kk : Int) < (m : Int) := by omega
              have hms2 : m - (intOf (.int .i64 ((kk : Int) + 1))).toNat < m - (intOf (.int .i64 (kk : Int))).toNat := by simp [intOf]; omega
              replace hms2 := Lib.hid hms2
              obtain ⟨j0, hj0⟩ : ∃ j0, (i + kk) % links = j0 := ⟨_, rfl⟩
              have hj0l : j0 < links := by rw [← hj0]; exact Nat.mod_lt _ (by omega)
              have hrm : ((i : Int) + (kk : Int)).tmod (links : Int) = (j0 : Int) := by rw [Int.tmod_eq_emod_of_nonneg (by omega), show (i : Int) + (kk : Int) = ((i + kk : Nat) : Int) by omega, ← hj0]; exact (Int.natCast_emod _ _).symm
              have hkI2 : (kk : Int) ≤ 16 := by omega
              have hl0 : ¬ links = 0 := by omega
              have hwr : IntKind.i64.wrap ((i : Int) + (kk : Int)) = (i : Int) + (kk : Int) := by rw [IntKind.wrap_i64]; omega
              have hj0I : (j0 : Int) < (links : Int) := by omega
              have hklt : kk < L.length := by rw [hm.out]; exact hltk
              obtain ⟨gf, xa, xc, eav, hgf, ci5, hxo⟩ := hFr.own_at hklt
              subst eav
              have hfg : (F ++ L).getD (T + kk) [] = L.getD kk [] := by
                rw [List.getD_eq_getElem?_getD, List.getElem?_append_right (by rw [hFT.out]; omega), hFT.out, show T + kk - T = kk by omega, ← List.getD_eq_getElem?_getD]
              have hfew2 := hdl2.out.few hj0l
              have hdl3 := Lib.hid (hdl2.out.snoc hj0l)
              obtain ⟨xs, o1, o2⟩ := (hQ.fr j0 hj0l).ex
              obtain ⟨aq, cq, hqe⟩ := hQ.slice hj0l
              have cq0 := hQ.cell hj0l
              rw [hqe] at o1 cq0
              obtain ⟨lq, hlq⟩ : ∃ lq, ((idx2 j0).map fun x => (F ++ L).getD x []).length = lq := ⟨_, rfl⟩
              have hlqb : lq ≤ 100 := by rw [← hlq, List.length_map]; omega
              have hm3 : lq + 1 ≤ maxLen := by unfold maxLen; omega
              have hm4 : (lq + 1) * 24 ≤ 140737488355328 := by omega
              have hsz4 := hb2r.size
              have hD2 := (Below.refl wr.heap.size wr).drew
              have oq := own_below o1 hD2
              (try dsimp only at oq cq0 hqe)
              rw [hlq] at oq cq0 hqe
              have hQd := hQ.below hD2
              have hFd := hFr.below hD2
              have hWd := hWn.below hD2
              have hxd := own_mono (own_below hxo hD2) hSB2
              obtain ⟨fl, hfl⟩ : ∃ fl, (L.getD kk []).length = fl := ⟨_, rfl⟩
              rw [hfl] at ci5 hxd
              have ci5d := (hD2.cell (p := ⟨gf, kk, none⟩) hgf).trans ci5
              have hS := Lib.hid (fun W (hW : Below wr.heap.size wr W) => And.intro ((hW.cell (p := ⟨w2.heap.size, j0, none⟩) (World.block_lt_of_cell? _ _ cq0)).trans cq0) ((hW.cell (p := ⟨gf, kk, none⟩) (World.block_lt_of_cell? _ _ ci5)).trans ci5))
              have hpost := fun v' w8 (ho8 : w8.ownsRow w2.heap.size 27 1 v' (lq + 1) (xs ++ [.slice xa fl xc])) (hg8 : wr.drew.grownBy w8 (Value.slice aq lq cq).ownBlock) (hn8 : Next wr.drew (.slice aq lq cq) v') =>
                back_post hQd hj0l hqe hlq oq (o2.but (K := fun _ => False) (ButOf.of_below hD2) (fun _ _ _ _ h => h)) hxd hfl hFd hWd hsW2 hsF2 hb2r.drew hsz4 ho8 hg8 hn8
              rw [updR_map hfg] at hpost
              replace hpost := Lib.hid hpost
              replace hj0 := Lib.hid hj0
              replace hlq := Lib.hid hlq
              replace hfl := Lib.hid hfl
              replace hqe := Lib.hid hqe
              replace hfg := Lib.hid hfg
              clear o1 o2 hxo hxd hQd hFd hWd hQ hFr hWn hdl2 hfew2 hsW2 hsF2
              go_wp2_with fail
              refine zed_start (S := fun W => W.cell? ⟨w2.heap.size, j0, none⟩ = some (.slice aq lq cq) ∧ W.cell? ⟨gf, kk, none⟩ = some (.slice xa fl xc)) (z := 21) (by kernel_rfl) (hS.out _ (Below.refl _ _).drew) (fun hHeld => ?_)
              refine zed_take (i := 0) (v := ?_) rfl (by kernel_rfl) (by kernel_rfl) (by kernel_rfl) (by kernel_rfl) (by kernel_rfl) (fun _ _ _ h => h) (Or.inl ⟨by kernel_rfl, ?_⟩) (by assumption) ?_
              rotate_left
              · intro w hSw
                (try dsimp only at hSw)
                go_split_ands
                go_simp
                all_goals with_reducible rfl
              simp only [List.setIfInBounds_toArray, List.set_cons_zero, List.set_cons_succ]
              refine zed_take (i := 1) (v := ?_) rfl (by kernel_rfl) (by kernel_rfl) (by kernel_rfl) (by kernel_rfl) (by kernel_rfl) (fun _ _ _ h => h) (Or.inl ⟨by kernel_rfl, ?_⟩) (by assumption) ?_
              rotate_left
              · intro w hSw
                (try dsimp only at hSw)
                go_split_ands
                go_simp
                all_goals with_reducible rfl
              simp only [List.setIfInBounds_toArray, List.set_cons_zero, List.set_cons_succ]
              refine zed_take (i := 2) (v := ?_) rfl (by kernel_rfl) (by kernel_rfl) (by kernel_rfl) (by kernel_rfl) (by kernel_rfl) (fun _ _ _ h => h) (Or.inl ⟨by kernel_rfl, ?_⟩) (by assumption) ?_
              rotate_left
              · intro w hSw
                (try dsimp only at hSw)
                go_split_ands
                go_simp
                all_goals with_reducible rfl
              simp only [List.setIfInBounds_toArray, List.set_cons_zero, List.set_cons_succ]
              refine zed_take (i := 3) (v := ?_) rfl (by kernel_rfl) (by kernel_rfl) (by kernel_rfl) (by kernel_rfl) (by kernel_rfl) (fun _ _ _ h => h) (Or.inl ⟨by kernel_rfl, ?_⟩) (by assumption) ?_
              rotate_left
              · intro w hSw
                (try dsimp only at hSw)
                go_split_ands
                go_simp
                all_goals with_reducible rfl
              simp only [List.setIfInBounds_toArray, List.set_cons_zero, List.set_cons_succ]
              refine zed_take (i := 4) (v := ?_) rfl (by kernel_rfl) (by kernel_rfl) (by kernel_rfl) (by kernel_rfl) (by kernel_rfl) (fun _ _ _ h => h) (Or.inl ⟨by kernel_rfl, ?_⟩) (by assumption) ?_
              rotate_left
              · intro w hSw
                (try dsimp only at hSw)
                go_split_ands
                go_simp
                all_goals with_reducible rfl
              simp only [List.setIfInBounds_toArray, List.set_cons_zero, List.set_cons_succ]
              refine zed_take (i := 5) (v := ?_) rfl (by kernel_rfl) (by kernel_rfl) (by kernel_rfl) (by kernel_rfl) (by kernel_rfl) (fun _ _ _ h => h) (Or.inl ⟨by kernel_rfl, ?_⟩) (by assumption) ?_
              rotate_left
              · intro w hSw
                (try dsimp only at hSw)
                go_split_ands
                go_simp
                all_goals with_reducible rfl
              simp only [List.setIfInBounds_toArray, List.set_cons_zero, List.set_cons_succ]
              refine zed_take (i := 6) (v := ?_) rfl (by kernel_rfl) (by kernel_rfl) (by kernel_rfl) (by kernel_rfl) (by kernel_rfl) (fun _ _ _ h => h) (Or.inl ⟨by kernel_rfl, ?_⟩) (by assumption) ?_
              rotate_left
              · intro w hSw
                (try dsimp only at hSw)
                go_split_ands
                go_simp
                all_goals with_reducible rfl
              simp only [List.setIfInBounds_toArray, List.set_cons_zero, List.set_cons_succ]
              refine zed_take (i := 7) (v := ?_) rfl (by kernel_rfl) (by kernel_rfl) (by kernel_rfl) (by kernel_rfl) (by kernel_rfl) (fun _ _ _ h => h) (Or.inl ⟨by kernel_rfl, ?_⟩) (by assumption) ?_
              rotate_left
              · intro w hSw
                (try dsimp only at hSw)
                go_split_ands
                go_simp
                all_goals with_reducible rfl
              simp only [List.setIfInBounds_toArray, List.set_cons_zero, List.set_cons_succ]
              refine zed_take (i := 8) (v := ?_) rfl (by kernel_rfl) (by kernel_rfl) (by kernel_rfl) (by kernel_rfl) (by kernel_rfl) (fun _ _ _ h => h) (Or.inl ⟨by kernel_rfl, ?_⟩) (by assumption) ?_
              rotate_left
              · intro w hSw
                (try dsimp only at hSw)
                go_split_ands
                go_simp
                all_goals with_reducible rfl
              simp only [List.setIfInBounds_toArray, List.set_cons_zero, List.set_cons_succ]
              refine zed_take (i := 9) (v := ?_) rfl (by kernel_rfl) (by kernel_rfl) (by kernel_rfl) (by kernel_rfl) (by kernel_rfl) (fun _ _ _ h => h) (Or.inl ⟨by kernel_rfl, ?_⟩) (by assumption) ?_
              rotate_left
              · intro w hSw
                (try dsimp only at hSw)
                go_split_ands
                go_simp
                all_goals with_reducible rfl
              simp only [List.setIfInBounds_toArray, List.set_cons_zero, List.set_cons_succ]
              refine zed_take (i := 10) (v := ?_) rfl (by kernel_rfl) (by kernel_rfl) (by kernel_rfl) (by kernel_rfl) (by kernel_rfl) (fun _ _ _ h => h) (Or.inl ⟨by kernel_rfl, ?_⟩) (by assumption) ?_
              rotate_left
              · intro w hSw
                (try dsimp only at hSw)
                go_split_ands
                go_simp
                all_goals with_reducible rfl
              simp only [List.setIfInBounds_toArray, List.set_cons_zero, List.set_cons_succ]
              refine zed_take (i := 11) (v := ?_) rfl (by kernel_rfl) (by kernel_rfl) (by kernel_rfl) (by kernel_rfl) (by kernel_rfl) (fun _ _ _ h => h) (Or.inl ⟨by kernel_rfl, ?_⟩) (by assumption) ?_
              rotate_left
              · intro w hSw
                (try dsimp only at hSw)
                go_split_ands
                go_simp
                all_goals with_reducible rfl
              simp only [List.setIfInBounds_toArray, List.set_cons_zero, List.set_cons_succ]
              refine zed_take (i := 12) (v := ?_) rfl (by kernel_rfl) (by kernel_rfl) (by kernel_rfl) (by kernel_rfl) (by kernel_rfl) (fun _ _ _ h => h) (Or.inl ⟨by kernel_rfl, ?_⟩) (by assumption) ?_
              rotate_left
              · intro w hSw
                (try dsimp only at hSw)
                go_split_ands
                go_simp
                all_goals with_reducible rfl
              simp only [List.setIfInBounds_toArray, List.set_cons_zero, List.set_cons_succ]
              refine zed_take (i := 13) (v := ?_) rfl (by kernel_rfl) (by kernel_rfl) (by kernel_rfl) (by kernel_rfl) (by kernel_rfl) (fun _ _ _ h => h) (Or.inl ⟨by kernel_rfl, ?_⟩) (by assumption) ?_
              rotate_left
              · intro w hSw
                (try dsimp only at hSw)
                go_split_ands
                go_simp
                all_goals with_reducible rfl
              simp only [List.setIfInBounds_toArray, List.set_cons_zero, List.set_cons_succ]
              refine zed_take (i := 14) (v := ?_) rfl (by kernel_rfl) (by kernel_rfl) (by kernel_rfl) (by kernel_rfl) (by kernel_rfl) (fun _ _ _ h => h) (Or.inl ⟨by kernel_rfl, ?_⟩) (by assumption) ?_
              rotate_left
              · intro w hSw
                (try dsimp only at hSw)
                go_split_ands
                go_simp
                all_goals with_reducible rfl
              simp only [List.setIfInBounds_toArray, List.set_cons_zero, List.set_cons_succ]
              refine zed_take (i := 15) (v := ?_) rfl (by kernel_rfl) (by kernel_rfl) (by kernel_rfl) (by kernel_rfl) (by kernel_rfl) (fun _ _ _ h => h) (Or.inl ⟨by kernel_rfl, ?_⟩) (by assumption) ?_
              rotate_left
              · intro w hSw
                (try dsimp only at hSw)
                go_split_ands
                go_simp
                all_goals with_reducible rfl
              simp only [List.setIfInBounds_toArray, List.set_cons_zero, List.set_cons_succ]
              refine zed_take (i := 16) (v := ?_) rfl (by kernel_rfl) (by kernel_rfl) (by kernel_rfl) (by kernel_rfl) (by kernel_rfl) (fun _ _ _ h => h) (Or.inl ⟨by kernel_rfl, ?_⟩) (by assumption) ?_
              rotate_left
              · intro w hSw
                (try dsimp only at hSw)
                go_split_ands
                go_simp
                all_goals with_reducible rfl
              simp only [List.setIfInBounds_toArray, List.set_cons_zero, List.set_cons_succ]
              refine zed_take (i := 17) (v := ?_) rfl (by kernel_rfl) (by kernel_rfl) (by kernel_rfl) (by kernel_rfl) (by kernel_rfl) (fun _ _ _ h => h) (Or.inl ⟨by kernel_rfl, ?_⟩) (by assumption) ?_
              rotate_left
              · intro w hSw
                (try dsimp only at hSw)
                go_split_ands
                go_simp
                all_goals with_reducible rfl
              simp only [List.setIfInBounds_toArray, List.set_cons_zero, List.set_cons_succ]
              refine zed_do (i := 18) (by kernel_rfl) rfl (fun K hK => ?_)
              go_simp
              refine hK.out _ _ ?_ (fun hHeld => ?_)
              · exact hS.out _ (below_alloc (Below.refl _ _).drew _ (Nat.le_refl _))
              clear hK K

              refine zed_do (i := 19) (by kernel_rfl) rfl (fun K hK => ?_)
              refine step_app1_at rfl _ _ 23 rfl w2.heap.size 27 ir _ 24 Try.underlying23 hir.out hy0 hy1 hy2 rfl (.slice aq lq cq) lq xs rfl oq (.slice xa fl xc) rfl rfl hm3 hm4 hsz4 ?_
              intro v' w8 ho8 hg8 hn8
              obtain ⟨a8, c8, rfl⟩ := own_slice ho8
              obtain ⟨⟨cs8, kb8⟩, ⟨k5, k6⟩, hQ8⟩ := hpost.out _ w8 ho8 hg8 hn8
              have k6 := k6.trans ci5d
              have f5 := kb8.free j0 none
              refine hK.out _ _ ?_ (fun hHeld => ?_)
              · exact ⟨k5, k6⟩
              clear hK K
              simp only [Act.put, List.setIfInBounds_toArray, List.set_cons_zero, List.set_cons_succ]
              refine zed_take (i := 20) (v := ?_) rfl (by kernel_rfl) (by kernel_rfl) (by kernel_rfl) (by kernel_rfl) (by kernel_rfl) (fun _ _ _ h => h) (Or.inl ⟨by kernel_rfl, ?_⟩) (by assumption) ?_
              rotate_left
              · intro w hSw
                (try dsimp only at hSw)
                go_split_ands
                go_simp
                all_goals with_reducible rfl
              simp only [List.setIfInBounds_toArray, List.set_cons_zero, List.set_cons_succ]
              refine zed_end (by kernel_rfl) rfl (fun K hK => ?_)
              go_simp
              refine hK.out _ _ ?_
              clear hK K
              refine zed_done (by kernel_rfl) ?_ _
              go_wp2_with fail
              go_roundw
              case rel => exact ⟨kk + 1, _, _, _, by omega, rfl, hdl3, hQ8.1, hQ8.2.1, hQ8.2.2.1, hQ8.2.2.2.1, hQ8.2.2.2.2.1, hQ8.2.2.2.2.2.1, Nat.le_trans hs52 hQ8.2.2.2.2.2.2⟩
              case measure => exact hms2.out
            · have hke : kk = m := by omega
              subst hke
              go_wp2_with fail
              go_roundw
              case rel => exact ⟨i + 1, T + kk, F ++ L, _, _, _, idx2, lk2, qs2, by omega, rfl, rfl, by omega, (by rw [hDl.out]; omega), hcuts2, hlen2, hdl2, hQ, hWn, hsW2, hb2r⟩
              case measure => exact hms.out
    · have hie : i = n := by omega
      subst hie
      have hT50 : T ≤ 50 := by omega
      obtain ⟨S2, hS2⟩ : ∃ S2, wr.heap.size = S2 := ⟨_, rfl⟩
      have hQc := hQr.qc
      rw [hS2] at hQc
      have hBS : w2.heap.size ≤ S2 := by rw [← hS2]; exact hbwr.size
      have hJr := hJ.below hbwr
      have hmid0 := Lib.hid (Mid2.init (links := links) (T := T) (idx := idx) (lk := lk) hcuts.out)
      have hw1S : w.heap.size ≤ S2 := by rw [← hS2]; exact hbw.size
      have hS2' := Nat.le_of_eq hS2.symm
      have hDb := Lib.hid hcuts.out.grams.most
      obtain ⟨aw, cw, rfl⟩ := hWr.slice
      have hWtop := Lib.hid (fun x (hx : (Value.slice aw D.length cw).ownBlock = some x) => (hS2 ▸ (hWr.lt hx).2 : x < S2))
      clear hQr hlt hS2
      go_wp2_with fail
      go_loopw [19, 20] (fun v19 v20 wr3 => ∃ (s : Nat) (ks : Nat → Nat) (qs3 : Nat → Value) (js : JS) (Lg : List (List UInt8)), v20 = .int .i64 s ∧ Hid (Mid2 js y P links T idx lk ks D Lg s) ∧ Fr wr3 S2 v19 Lg ∧ Jo wr3 w1.heap.size (w1.heap.size + 1) w1.heap.size vl js ∧ Hid (Rest js) ∧ Hid (js.most = 4096) ∧
        Qc wr3 w2.heap.size S2 w2.heap.size links qs3 qs (fun j => (idx j).map fun x => F.getD x []) ks ∧ Wn w wr3 w2.heap.size (.slice aw D.length cw) D ∧ Below w.heap.size w wr3 ∧ S2 ≤ wr3.heap.size) (fun _ v20 _ => 400 - (intOf v20).toNat)
      case atStart => exact ⟨0, _, _, _, [], rfl, hmid0, Fr.nil _ _, hJr, hrest, Lib.hid rfl, hQc, hWr, hbw, hS2'⟩
      case round =>
        obtain ⟨s, ks, qs3, js, Lg, rfl, hmid, hgot, hJ3, hrs, hmo4, hQ3, hW3, hb3, hs3⟩ := hrel
        clear hQc hWr hJr hbw hbwr
        have hsT := hmid.out.few hdl.out
        have hsI : (s : Int) < 400 := by omega
        have hms3 : 400 - (intOf (.int .i64 ((s : Int) + 1))).toNat < 400 - (intOf (.int .i64 (s : Int))).toNat := by simp [intOf]; omega
        replace hms3 := Lib.hid hms3
        obtain ⟨ag, cg, rfl⟩ := hgot.slice
        obtain ⟨w3, hw3⟩ : ∃ x, x = wr := ⟨_, rfl⟩
        subst hw3
        by_cases hsn : s < n2
        · have hsnI : (s : Int) < (n2 : Int) := by omega
          obtain ⟨b3, o3, rfl, c3⟩ := (hB2.below hb3 (Nat.le_refl _)).cell s hsn
          have hub := (z2.getD s 0).toNat_lt
          generalize (z2.getD s 0).toNat = u at c3 hub
          obtain ⟨i0, hi0⟩ : ∃ i0, u % links = i0 := ⟨_, rfl⟩
          have hi0l : i0 < links := by rw [← hi0]; exact Nat.mod_lt _ (by omega)
          have hu0 : (u : Int).tmod (links : Int) = (i0 : Int) := by rw [Int.tmod_eq_emod_of_nonneg (by omega), ← hi0]; exact (Int.natCast_emod _ _).symm
          have hcap2 := hB2.cap
          have hmo2 := hB2.most
          replace hi0 := Lib.hid hi0
          clear hsT
          go_wp2_with fail
          go_loopw [21, 22] (fun v21 v22 wr4 => ∃ (kk j : Nat), kk ≤ links ∧ v22 = .int .i64 kk ∧ v21 = .int .i64 j ∧ Hid (j = (i0 + kk) % links) ∧ Hid (∀ t, t < kk → (idx ((i0 + t) % links)).length ≤ ks ((i0 + t) % links)) ∧ w3 = wr4) (fun _ v22 _ => links - (intOf v22).toNat)
          case atStart => exact ⟨0, i0, Nat.zero_le _, rfl, rfl, Lib.hid (by rw [Nat.add_zero, Nat.mod_eq_of_lt hi0l]), Lib.hid (fun t ht => by omega), rfl⟩
          case round =>
            obtain ⟨kk, j, hkk, rfl, rfl, hj, hall, rfl⟩ := hrel
            have hjl : j < links := by rw [hj.out]; exact Nat.mod_lt _ (by omega)
            have hjI : (j : Int) < (links : Int) := by omega
            have hkkI : (kk : Int) ≤ 3 := by omega
            have cq := hQ3.cell hjl
            have hle := hmid.out.le j hjl
            have hlen : ((idx j).map fun x => F.getD x []).length = (idx j).length := List.length_map ..
            by_cases hem : (idx j).length ≤ ks j
            · obtain ⟨aj, cj, hqj, _⟩ := hQ3.left j hjl
              rw [hlen, show (idx j).length - ks j = 0 by omega] at hqj
              rw [hqj] at cq
              by_cases hkl : kk < links
              · have hklI : (kk : Int) < (links : Int) := by omega
                obtain ⟨j2, hj2⟩ : ∃ j2, (j + 1) % links = j2 := ⟨_, rfl⟩
                have hl0 : ¬ links = 0 := by omega
                have hj2I : ((j : Int) + 1).tmod (links : Int) = (j2 : Int) := by rw [Int.tmod_eq_emod_of_nonneg (by omega), show (j : Int) + 1 = ((j + 1 : Nat) : Int) by omega, ← hj2]; exact (Int.natCast_emod _ _).symm
                have hj3 : Hid (j2 = (i0 + (kk + 1)) % links) := Lib.hid (by rw [← hj2, hj.out, Nat.mod_add_mod, Nat.add_assoc])
                have hall2 : Hid (∀ t, t < kk + 1 → (idx ((i0 + t) % links)).length ≤ ks ((i0 + t) % links)) := Lib.hid (fun t ht => by
                  by_cases htk : t < kk
                  · exact hall.out t htk
                  · rw [show t = kk by omega, ← hj.out]; exact hem)
                have hms4 : links - (intOf (.int .i64 ((kk : Int) + 1))).toNat < links - (intOf (.int .i64 (kk : Int))).toNat := by simp [intOf]; omega
                replace hms4 := Lib.hid hms4
                replace hj2 := Lib.hid hj2
                replace hqj := Lib.hid hqj
                clear hem hle hlen
                go_wp2_with fail
                go_roundw
                case rel => exact ⟨kk + 1, j2, by omega, rfl, rfl, hj3, hall2, trivial⟩
                case measure => exact hms4.out
              · have hklI : ¬ ((kk : Int) < (links : Int)) := by omega
                have hemp : ∀ i, i < links → (idx i).length ≤ ks i := fun i hi => by
                  obtain ⟨t, ht, e⟩ := round_all hi0l hi
                  have := hall.out t (by omega)
                  rwa [e] at this
                obtain ⟨rfl, hhe, hlo⟩ := hmid.out.done hdl.out hPT.out hT50 (by omega) hemp
                obtain ⟨_, _, e1, R1⟩ := hgot.rl (fun x hx => by have := hDb.out x hx; omega)
                cases e1
                obtain ⟨_, _, e2, R2⟩ := hW3.rl hb3
                cases e2
                have hfr := frames_any _ _ _ _ _ _ _ _ w3 R1 R2
                simp only at hfr
                have hlost := fun W hW => lost_any (w := W) (B := w1.heap.size) (b := w1.heap.size + 1) (bm := w1.heap.size) (vl := vl) (s := js) hW
                have hheld := fun W hW => held_any (w := W) (B := w1.heap.size) (b := w1.heap.size + 1) (bm := w1.heap.size) (vl := vl) (s := js) hW
                rw [hlo, show wrap64 ((0 : Nat) : Int) = 0 by unfold wrap64; omega] at hlost
                rw [hhe, List.length_nil] at hheld
                replace hfr := Lib.hid hfr
                replace hlost := Lib.hid hlost
                replace hheld := Lib.hid hheld
                replace hqj := Lib.hid hqj
                clear hem hle hlen R1 R2 hgot hW3 hQ3 hemp hhe hlo
                go_wp2_with (first | (go_at_call 20; refine hfr.out.mono ?_; rintro e w8 ⟨rfl, hb8⟩; have hJ8 := hJ3.below hb8) | (go_at_call 21; refine (hlost.out _ hJ8).mono ?_; rintro e w' ⟨rfl, rfl⟩) | (go_at_call 22; refine (hheld.out _ hJ8).mono ?_; rintro e w' ⟨rfl, rfl⟩))
                go_ret
                exact ⟨rfl, hb3.trans (hb8.mono hb3.size)⟩
            · have hks : ks j < (idx j).length := by omega
              have hkl : kk < links := by
                refine Nat.lt_of_not_le (fun hkk2 => ?_)
                have h0 := hall.out 0 (by omega)
                have hkk3 : kk = links := by omega
                have hj0 : j = i0 := by rw [hj.out, hkk3, Nat.add_mod_right, Nat.mod_eq_of_lt hi0l]
                rw [Nat.add_zero, Nat.mod_eq_of_lt hi0l, ← hj0] at h0
                exact hem h0
              obtain ⟨gj, dj, a1, m1, d1, hqj, hleft, hsl, hdj1, hdj2⟩ := (hQ3.left j hjl).next (by rw [hlen]; exact hks)
              obtain ⟨Lk, t, hadd, hmid2, hfl2⟩ := hmid.out.add hdl.out hcuts.out hPT.out hT50 (by omega) hjl hks
              obtain ⟨xa, xc, ci5, hBi⟩ := hQ3.first hjl (by rw [hlen]; exact hks) (by omega) hqj
              have hrs2 := hadd.rest hrs.out (by omega)
              have hrt := Lib.hid hrs2.1
              have hmt := Lib.hid (hrs2.2.2.1.trans hmo4.out)
              have hmst := hadd.most
              rw [hmo4.out] at hmst
              have hLk : Lk.length ≤ 65 := hrs2.2.2.2.2
              have hLg : Lg.length ≤ 10 := by
                obtain ⟨_, DR, _, _, e⟩ := hmid.out.ex
                have := congrArg List.length e
                rw [List.length_append] at this
                omega
              have hm7 : Lg.length + Lk.length ≤ 100000 := by omega
              have hl5 : ((((idx j).map fun x => F.getD x [])).getD (ks j) []).length ≤ 100000 := by omega
              rw [hlen] at hqj hsl hdj1
              obtain ⟨m0, hm0⟩ : ∃ m0, (idx j).length - ks j = m0 := ⟨_, rfl⟩
              rw [hm0] at hqj hsl hdj1
              rw [hqj] at cq
              have hm0I : (0 : Int) < (m0 : Int) := by omega
              have hm0z : ((m0 : Int) == 0) = false := by rw [beq_eq_false_iff_ne]; omega
              have hm0N : 1 ≤ m0 := by omega
              have hcut := fun W (hW : Qc W w2.heap.size S2 w2.heap.size links qs3 qs (fun j => (idx j).map fun x => F.getD x []) ks) => hW.cut hjl hleft
              generalize (((idx j).map fun x => F.getD x [])).getD (ks j) [] = fb at hadd hBi ci5 hl5 hfl2
              obtain ⟨fl, hfl⟩ : ∃ fl, fb.length = fl := ⟨_, rfl⟩
              rw [hfl] at ci5 hBi
              replace hl5 := Lib.hid hl5
              replace hm0 := Lib.hid hm0
              replace hadd := Lib.hid hadd
              replace hmid2 := Lib.hid hmid2
              replace hcut := Lib.hid hcut
              replace hfl := Lib.hid hfl
              replace hqj := Lib.hid hqj
              generalize ks j = kj at *
              have hklI : (kk : Int) < (links : Int) := by omega
              clear hem hks hle hlen hleft hrs2
              go_upto_region 39 with (go_at_call 15; refine (add_any (j : Nat) hJ3 hrs.out hBi hl5.out).mono ?_; rintro e w7 ⟨v7, L7, e7, t7, rfl, hR7, hJ7, hF7, hb7⟩; obtain ⟨rfl, rfl, rfl⟩ := hadd.out.one hR7)
              have hw7 := hJ3.under hb3 hb1.size hb7
              have hQ7 := hQ3.jo hJ3 hb7
              have hgot7 := hgot.jo hJ3 hb7
              have hW7 := hW3.jo hJ3 hb7
              have cq7 := hQ7.cell hjl
              rw [hqj.out] at cq7
              obtain ⟨a7, c7, rfl⟩ := hF7.slice
              obtain ⟨cs7, kb7⟩ := own_blk hQ7.row
              have kf7 := kb7.free j none
              have hgot8 := hgot7.setq (i := j) (x := .slice a1 m1 d1) hQ7.row
              have hF8 := (hF7.mono hs3).setq (i := j) (x := .slice a1 m1 d1) hQ7.row
              have hset : ButOf (fun x => (Value.slice (some ⟨w2.heap.size, 0, none⟩) links links).ownBlock = some x) w7 (w7.setCell ⟨w2.heap.size, j, none⟩ (.slice a1 m1 d1)) := (ButOf.refl _ w7).set _ (Or.inl rfl)
              have hsz8 := Nat.le_trans (Nat.le_trans hs3 hb7.size) hset.size
              go_wp2_with (at_builtin; go_must (refine wp_appF rfl _ _ rfl rfl hgot8 rfl hF8 hm7 hsz8 ?_))
              intro v9 w9 hF9 hg9 hb9
              obtain ⟨xg, og, _⟩ := hgot8.ex
              have hQ9 := (hcut.out _ hQ7).other og hg9
              have hJ8 := hJ7.out hQ7.row (by decide) (by decide) (by decide) hset
              have hJ9 := hJ8.out og (by decide) (by decide) (by decide) (ButOf.of_grown hg9 (fun _ e => e))
              have hW9 := (hW7.setq (i := j) (x := .slice a1 m1 d1) hQ7.row).but (ButOf.of_grown (K := fun x => (Value.slice ag Lg.length cg).ownBlock = some x) hg9 (fun _ e => e)) (fun x hx e => by have e1 := hWtop.out x hx; have e2 := (own_ownlt og e).1; omega)
              have hw9 := (hw7.setCell (p := ⟨w2.heap.size, j, none⟩) hb12.size (.slice a1 m1 d1)).trans (hb9.mono hw1S)
              have hs9 := Nat.le_trans hsz8 hg9.size
              obtain ⟨a9, c9, rfl⟩ := hF9.slice
              clear hQ7 hgot7 hW7 cq7 kb7 kf7 hgot8 hF8 hset hJ7 hJ8 hF7 hb7 hR7 og hg9 hb9 hsz8 hQ3 hW3 hgot hJ3 hBi ci5 cq hadd hcut
              go_wp2_with fail
              go_roundw
              case rel => exact ⟨s + 1, _, _, _, _, rfl, hmid2, hF9, hJ9, hrt, hmt, hQ9, hW9, hw9, hs9⟩
              case measure => exact hms3.out
        · have hsnI : ¬ ((s : Int) < (n2 : Int)) := by omega
          obtain ⟨i0, hi0⟩ : ∃ i0, 0 = i0 := ⟨_, rfl⟩
          have hi0l : i0 < links := by omega
          replace hi0 := Lib.hid hi0
          clear hsT
          go_wp2_with fail
          go_loopw [21, 22] (fun v21 v22 wr4 => ∃ (kk j : Nat), kk ≤ links ∧ v22 = .int .i64 kk ∧ v21 = .int .i64 j ∧ Hid (j = (i0 + kk) % links) ∧ Hid (∀ t, t < kk → (idx ((i0 + t) % links)).length ≤ ks ((i0 + t) % links)) ∧ w3 = wr4) (fun _ v22 _ => links - (intOf v22).toNat)
          case atStart => exact ⟨0, i0, Nat.zero_le _, rfl, by rw [← hi0.out]; rfl, Lib.hid (by rw [Nat.add_zero, Nat.mod_eq_of_lt hi0l]), Lib.hid (fun t ht => by omega), rfl⟩
          case round =>
            obtain ⟨kk, j, hkk, rfl, rfl, hj, hall, rfl⟩ := hrel
            have hjl : j < links := by rw [hj.out]; exact Nat.mod_lt _ (by omega)
            have hjI : (j : Int) < (links : Int) := by omega
            have hkkI : (kk : Int) ≤ 3 := by omega
            have cq := hQ3.cell hjl
            have hle := hmid.out.le j hjl
            have hlen : ((idx j).map fun x => F.getD x []).length = (idx j).length := List.length_map ..
            by_cases hem : (idx j).length ≤ ks j
            · obtain ⟨aj, cj, hqj, _⟩ := hQ3.left j hjl
              rw [hlen, show (idx j).length - ks j = 0 by omega] at hqj
              rw [hqj] at cq
              by_cases hkl : kk < links
              · have hklI : (kk : Int) < (links : Int) := by omega
                obtain ⟨j2, hj2⟩ : ∃ j2, (j + 1) % links = j2 := ⟨_, rfl⟩
                have hl0 : ¬ links = 0 := by omega
                have hj2I : ((j : Int) + 1).tmod (links : Int) = (j2 : Int) := by rw [Int.tmod_eq_emod_of_nonneg (by omega), show (j : Int) + 1 = ((j + 1 : Nat) : Int) by omega, ← hj2]; exact (Int.natCast_emod _ _).symm
                have hj3 : Hid (j2 = (i0 + (kk + 1)) % links) := Lib.hid (by rw [← hj2, hj.out, Nat.mod_add_mod, Nat.add_assoc])
                have hall2 : Hid (∀ t, t < kk + 1 → (idx ((i0 + t) % links)).length ≤ ks ((i0 + t) % links)) := Lib.hid (fun t ht => by
                  by_cases htk : t < kk
                  · exact hall.out t htk
                  · rw [show t = kk by omega, ← hj.out]; exact hem)
                have hms4 : links - (intOf (.int .i64 ((kk : Int) + 1))).toNat < links - (intOf (.int .i64 (kk : Int))).toNat := by simp [intOf]; omega
                replace hms4 := Lib.hid hms4
                replace hj2 := Lib.hid hj2
                replace hqj := Lib.hid hqj
                clear hem hle hlen
                go_wp2_with fail
                go_roundw
                case rel => exact ⟨kk + 1, j2, by omega, rfl, rfl, hj3, hall2, trivial⟩
                case measure => exact hms4.out
              · have hklI : ¬ ((kk : Int) < (links : Int)) := by omega
                have hemp : ∀ i, i < links → (idx i).length ≤ ks i := fun i hi => by
                  obtain ⟨t, ht, e⟩ := round_all hi0l hi
                  have := hall.out t (by omega)
                  rwa [e] at this
                obtain ⟨rfl, hhe, hlo⟩ := hmid.out.done hdl.out hPT.out hT50 (by omega) hemp
                obtain ⟨_, _, e1, R1⟩ := hgot.rl (fun x hx => by have := hDb.out x hx; omega)
                cases e1
                obtain ⟨_, _, e2, R2⟩ := hW3.rl hb3
                cases e2
                have hfr := frames_any _ _ _ _ _ _ _ _ w3 R1 R2
                simp only at hfr
                have hlost := fun W hW => lost_any (w := W) (B := w1.heap.size) (b := w1.heap.size + 1) (bm := w1.heap.size) (vl := vl) (s := js) hW
                have hheld := fun W hW => held_any (w := W) (B := w1.heap.size) (b := w1.heap.size + 1) (bm := w1.heap.size) (vl := vl) (s := js) hW
                rw [hlo, show wrap64 ((0 : Nat) : Int) = 0 by unfold wrap64; omega] at hlost
                rw [hhe, List.length_nil] at hheld
                replace hfr := Lib.hid hfr
                replace hlost := Lib.hid hlost
                replace hheld := Lib.hid hheld
                replace hqj := Lib.hid hqj
                clear hem hle hlen R1 R2 hgot hW3 hQ3 hemp hhe hlo
                go_wp2_with (first | (go_at_call 20; refine hfr.out.mono ?_; rintro e w8 ⟨rfl, hb8⟩; have hJ8 := hJ3.below hb8) | (go_at_call 21; refine (hlost.out _ hJ8).mono ?_; rintro e w' ⟨rfl, rfl⟩) | (go_at_call 22; refine (hheld.out _ hJ8).mono ?_; rintro e w' ⟨rfl, rfl⟩))
                go_ret
                exact ⟨rfl, hb3.trans (hb8.mono hb3.size)⟩
            · have hks : ks j < (idx j).length := by omega
              have hkl : kk < links := by
                refine Nat.lt_of_not_le (fun hkk2 => ?_)
                have h0 := hall.out 0 (by omega)
                have hkk3 : kk = links := by omega
                have hj0 : j = i0 := by rw [hj.out, hkk3, Nat.add_mod_right, Nat.mod_eq_of_lt hi0l]
                rw [Nat.add_zero, Nat.mod_eq_of_lt hi0l, ← hj0] at h0
                exact hem h0
              obtain ⟨gj, dj, a1, m1, d1, hqj, hleft, hsl, hdj1, hdj2⟩ := (hQ3.left j hjl).next (by rw [hlen]; exact hks)
              obtain ⟨Lk, t, hadd, hmid2, hfl2⟩ := hmid.out.add hdl.out hcuts.out hPT.out hT50 (by omega) hjl hks
              obtain ⟨xa, xc, ci5, hBi⟩ := hQ3.first hjl (by rw [hlen]; exact hks) (by omega) hqj
              have hrs2 := hadd.rest hrs.out (by omega)
              have hrt := Lib.hid hrs2.1
              have hmt := Lib.hid (hrs2.2.2.1.trans hmo4.out)
              have hmst := hadd.most
              rw [hmo4.out] at hmst
              have hLk : Lk.length ≤ 65 := hrs2.2.2.2.2
              have hLg : Lg.length ≤ 10 := by
                obtain ⟨_, DR, _, _, e⟩ := hmid.out.ex
                have := congrArg List.length e
                rw [List.length_append] at this
                omega
              have hm7 : Lg.length + Lk.length ≤ 100000 := by omega
              have hl5 : ((((idx j).map fun x => F.getD x [])).getD (ks j) []).length ≤ 100000 := by omega
              rw [hlen] at hqj hsl hdj1
              obtain ⟨m0, hm0⟩ : ∃ m0, (idx j).length - ks j = m0 := ⟨_, rfl⟩
              rw [hm0] at hqj hsl hdj1
              rw [hqj] at cq
              have hm0I : (0 : Int) < (m0 : Int) := by omega
              have hm0z : ((m0 : Int) == 0) = false := by rw [beq_eq_false_iff_ne]; omega
              have hm0N : 1 ≤ m0 := by omega
              have hcut := fun W (hW : Qc W w2.heap.size S2 w2.heap.size links qs3 qs (fun j => (idx j).map fun x => F.getD x []) ks) => hW.cut hjl hleft
              generalize (((idx j).map fun x => F.getD x [])).getD (ks j) [] = fb at hadd hBi ci5 hl5 hfl2
              obtain ⟨fl, hfl⟩ : ∃ fl, fb.length = fl := ⟨_, rfl⟩
              rw [hfl] at ci5 hBi
              replace hl5 := Lib.hid hl5
              replace hm0 := Lib.hid hm0
              replace hadd := Lib.hid hadd
              replace hmid2 := Lib.hid hmid2
              replace hcut := Lib.hid hcut
              replace hfl := Lib.hid hfl
              replace hqj := Lib.hid hqj
              generalize ks j = kj at *
              have hklI : (kk : Int) < (links : Int) := by omega
              clear hem hks hle hlen hleft hrs2
              go_upto_region 39 with (go_at_call 15; refine (add_any (j : Nat) hJ3 hrs.out hBi hl5.out).mono ?_; rintro e w7 ⟨v7, L7, e7, t7, rfl, hR7, hJ7, hF7, hb7⟩; obtain ⟨rfl, rfl, rfl⟩ := hadd.out.one hR7)
              have hw7 := hJ3.under hb3 hb1.size hb7
              have hQ7 := hQ3.jo hJ3 hb7
              have hgot7 := hgot.jo hJ3 hb7
              have hW7 := hW3.jo hJ3 hb7
              have cq7 := hQ7.cell hjl
              rw [hqj.out] at cq7
              obtain ⟨a7, c7, rfl⟩ := hF7.slice
              obtain ⟨cs7, kb7⟩ := own_blk hQ7.row
              have kf7 := kb7.free j none
              have hgot8 := hgot7.setq (i := j) (x := .slice a1 m1 d1) hQ7.row
              have hF8 := (hF7.mono hs3).setq (i := j) (x := .slice a1 m1 d1) hQ7.row
              have hset : ButOf (fun x => (Value.slice (some ⟨w2.heap.size, 0, none⟩) links links).ownBlock = some x) w7 (w7.setCell ⟨w2.heap.size, j, none⟩ (.slice a1 m1 d1)) := (ButOf.refl _ w7).set _ (Or.inl rfl)
              have hsz8 := Nat.le_trans (Nat.le_trans hs3 hb7.size) hset.size
              go_wp2_with (at_builtin; go_must (refine wp_appF rfl _ _ rfl rfl hgot8 rfl hF8 hm7 hsz8 ?_))
              intro v9 w9 hF9 hg9 hb9
              obtain ⟨xg, og, _⟩ := hgot8.ex
              have hQ9 := (hcut.out _ hQ7).other og hg9
              have hJ8 := hJ7.out hQ7.row (by decide) (by decide) (by decide) hset
              have hJ9 := hJ8.out og (by decide) (by decide) (by decide) (ButOf.of_grown hg9 (fun _ e => e))
              have hW9 := (hW7.setq (i := j) (x := .slice a1 m1 d1) hQ7.row).but (ButOf.of_grown (K := fun x => (Value.slice ag Lg.length cg).ownBlock = some x) hg9 (fun _ e => e)) (fun x hx e => by have e1 := hWtop.out x hx; have e2 := (own_ownlt og e).1; omega)
              have hw9 := (hw7.setCell (p := ⟨w2.heap.size, j, none⟩) hb12.size (.slice a1 m1 d1)).trans (hb9.mono hw1S)
              have hs9 := Nat.le_trans hsz8 hg9.size
              obtain ⟨a9, c9, rfl⟩ := hF9.slice
              clear hQ7 hgot7 hW7 cq7 kb7 kf7 hgot8 hF8 hset hJ7 hJ8 hF7 hb7 hR7 og hg9 hb9 hsz8 hQ3 hW3 hgot hJ3 hBi ci5 cq hadd hcut
              go_wp2_with fail
              go_roundw
              case rel => exact ⟨s + 1, _, _, _, _, rfl, hmid2, hF9, hJ9, hrt, hmt, hQ9, hW9, hw9, hs9⟩
              case measure => exact hms3.out
end Go.Proofs.Ytglmlhbchfgliaa
