/-
  MultiRound: the walk. No conditions.
-/
import Derived.Test.YtglmlhbchfgliaaMuLine3
import Derived.Test.YtglmlhbchfgliaaMuSame
namespace Go.Proofs.Ytglmlhbchfgliaa
open Go.RowKit Go.Maps
set_option maxRecDepth 100000 in
/-- no bytes, or too many -/
theorem round_out {w : World} (a : Option Addr) (n c : Nat) (t : Int) (hn : n < 1 ∨ 40 < n) :
    Calls Try.prog 10 #[.slice a n c, .int .u16 t] w fun e w' => e = .returned (.bool true) ∧ Below w.heap.size w w' := by
  by_cases h1 : n < 1
  · obtain rfl : n = 0 := by omega
    clear hn h1
    go_enter Try.func10, Try.ntmps10
    go_wp2_with (go_at_call 12; refine (awake_any w).mono ?_; rintro e w1 ⟨rfl, hb1⟩)
    go_ret
    exact ⟨rfl, hb1⟩
  · have h2 : (40 : Int) < (n : Int) := by omega
    have h1 : (1 : Int) ≤ (n : Int) := by omega
    clear hn
    go_enter Try.func10, Try.ntmps10
    go_wp2_with (go_at_call 12; refine (awake_any w).mono ?_; rintro e w1 ⟨rfl, hb1⟩)
    go_ret
    exact ⟨rfl, hb1⟩
/-- the state within a datagram: so many fragments came -/
structure Mid (s : JS) (l : List UInt8) (L : List (List UInt8)) (S nx k n1 fu : Nat) (A l1 : List UInt8) : Prop where
  split : l = A ++ l1
  rest : L.drop k = (cutF 4096 S true fu (flagN (decide (k = 0)) false) n1 l1).1
  num : n1 = (nx + k) % 4096
  fuel : l1.length ≤ fu
  line : ∃ a ps, Line s true 100 a ps 0 0 ∧ (a + ps.length) % 4096 = n1 ∧ (k < L.length → ps.length = k ∧ catB ps = A) ∧ (k = L.length → ps = [])
/-- a fragment more -/
theorem Mid.add {s : JS} {l A l1 : List UInt8} {L : List (List UInt8)} {S nx k n1 fu : Nat} (h : Mid s l L S nx k n1 fu A l1) (hS : 0 < S) (hk : k < L.length) (hL : L.length ≤ 16) (hl : l.length ≤ 100) :
    ∃ t n2, AddR s 0 (L.getD k []) (if k + 1 = L.length then [l] else []) 0 t ∧ Mid t l L S nx (k + 1) n2 (fu - 1) (A ++ l1.take S) (l1.drop S) := by
  obtain ⟨a, ps, hline, hnum, hps, _⟩ := h.line
  obtain ⟨hpl, hcat⟩ := hps hk
  obtain ⟨h0, hel, hdr, hlast, hfu⟩ := frag_at hS hk h.fuel h.rest
  have hn1 : n1 < 4096 := by rw [h.num]; exact Nat.mod_lt _ (by decide)
  have hhd : headP (L.getD k []) true = ⟨n1, decide (k = 0), decide (l1.length ≤ S), l1.take S, 0⟩ := by rw [hel]; exact headP_headB (show n1 < rgN true from hn1) _
  have hsp := h.split
  have hlen : l.length = A.length + l1.length := by rw [hsp, List.length_append]
  have hcl : catB (ps ++ [⟨decide (k = 0), decide (l1.length ≤ S), l1.take S⟩]) = A ++ l1.take S := by
    have e : catB (ps ++ [⟨decide (k = 0), decide (l1.length ≤ S), l1.take S⟩]) = catB ps ++ l1.take S := by simp [catB]
    rw [e, hcat]
  obtain ⟨t, a', ps', h1, h2, h3, h4⟩ := hline.cont (p := ⟨decide (k = 0), decide (l1.length ≤ S), l1.take S⟩) (l := L.getD k []) (by rw [hhd]; congr 1; exact hnum.symm) (by rw [hpl]) (by omega) (by rw [hcl, List.length_append, List.length_take]; omega)
  have hR : rgN true = 4096 := rfl
  rw [hR] at h4
  have h5 : (a' + ps'.length) % 4096 = (n1 + 1) % 4096 := by rw [h4, ← hnum]; omega
  refine ⟨t, (n1 + 1) % 4096, ?_, ⟨by rw [List.append_assoc, List.take_append_drop]; exact hsp, ?_, by rw [h.num]; omega, hfu, a', ps', h2, h5, fun hk1 => ?_, fun hk1 => ?_⟩⟩
  · by_cases he : k + 1 = L.length
    · have hle := hlast.1 he
      rw [if_pos he]
      simp only [decide_eq_true hle, if_true] at h1
      rw [decide_eq_true hle] at hcl
      rw [hcl, List.take_of_length_le hle, ← hsp] at h1
      exact h1
    · have hle : ¬ l1.length ≤ S := fun e => he (hlast.2 e)
      rw [if_neg he]
      simpa [decide_eq_false hle] using h1
  · rw [decide_eq_false (by omega)]
    exact hdr
  · have hle : ¬ l1.length ≤ S := fun e => by have := hlast.2 e; omega
    rw [decide_eq_false hle] at h3 hcl
    simp only [Bool.false_eq_true, if_false] at h3
    rw [h3, List.length_append, List.length_singleton, hpl]
    exact ⟨rfl, hcl⟩
  · have hle := hlast.1 hk1
    rw [decide_eq_true hle] at h3
    simpa using h3
theorem Fr.one {w : World} {B : Nat} {v : Value} {l : List UInt8} (h : Fr w B v [l]) (hl : l.length ≤ 100000) : ∃ g c xa xc, v = .slice (some ⟨g, 0, none⟩) 1 c ∧ w.cell? ⟨g, 0, none⟩ = some (.slice xa l.length xc) ∧ Bts w xa l.length xc l := by
  obtain ⟨a, c, rfl⟩ := h.slice
  obtain ⟨g, xa, xc, rfl, h1, h2⟩ := h.at_ (i := 0) (by simp) (by simp; omega)
  exact ⟨g, c, xa, xc, rfl, h1, h2⟩
theorem Fr.none {w : World} {B : Nat} {v : Value} (h : Fr w B v []) : ∃ a c, v = .slice a 0 c := h.slice
theorem cutP_fine {l : List UInt8} {S f : Nat} {short : Bool} (h1 : 0 < l.length) (h2 : 0 < S) (h3 : f < rgN short) (h4 : (l.length - 1) / S < 16) : (cutP l S f short).2.2 = 0 := by
  unfold cutP
  rw [if_neg (by omega), Int.toNat_natCast, if_neg (by omega)]
theorem round_size {n : Nat} (h1 : 1 ≤ n) (h2 : n ≤ 40) : (n - 1) / (1 + n / 6) < 16 := by
  rw [Nat.div_lt_iff_lt_mul (by omega)]
  omega
set_option maxRecDepth 100000 in
set_option maxHeartbeats 2000000 in
theorem round_in {w : World} {a : Option Addr} {n c : Nat} {l : List UInt8} (T0 : Nat) (hB : Bts w a n c l) (h1 : 1 ≤ n) (h2 : n ≤ 40) (ht : T0 < 65536) :
    Calls Try.prog 10 #[.slice a n c, .int .u16 (T0 : Nat)] w fun e w' => e = .returned (.bool true) ∧ Below w.heap.size w w' := by
  have hl := hB.len
  have hnI1 : (1 : Int) ≤ (n : Int) := by omega
  have hnI2 : (n : Int) ≤ 40 := by omega
  have hsz := round_size h1 h2
  obtain ⟨S, hS⟩ : ∃ S, 1 + n / 6 = S := ⟨_, rfl⟩
  rw [hS, ← hl] at hsz
  have hS0 : 0 < S := by omega
  have hSb : S ≤ 100 := by omega
  obtain ⟨q, hq⟩ : ∃ q, n / 6 = q := ⟨_, rfl⟩
  have hq1 : (n : Int).tdiv 6 = (q : Int) := by rw [Int.tdiv_eq_ediv_of_nonneg (by omega)]; omega
  have hq2 : (n : Int) / 6 = (q : Int) := by omega
  have hSq : (1 : Int) + (q : Int) = (S : Int) := by omega
  obtain ⟨r, hr⟩ : ∃ r, T0 % 1500 = r := ⟨_, rfl⟩
  have hr1 : (T0 : Int).tmod 1500 = (r : Int) := by rw [Int.tmod_eq_emod_of_nonneg (by omega)]; omega
  have hr2 : (T0 : Int) % 1500 = (r : Int) := by omega
  obtain ⟨T, hT⟩ : ∃ T, T = 300 + r := ⟨_, rfl⟩
  have hTr : (300 : Int) + (r : Int) = (T : Int) := by omega
  have hTb : T ≤ 10000 := by omega
  replace hq := Lib.hid hq
  replace hr := Lib.hid hr
  replace hT := Lib.hid hT
  replace hS := Lib.hid hS
  have hnew := fun W => new_any (w := W) 1 100 true (by decide) (by decide) (by decide) (by decide)
  replace hnew := Lib.hid hnew
  have hrest := newJ_rest 1 100 true (by decide) (by decide)
  replace hrest := Lib.hid hrest
  have hline : Line (newJ 1 100 true) true 100 0 [] 0 0 := ⟨⟨-1, rfl, Or.inl rfl⟩, rgN_pos _, by simp, by simp, by simp⟩
  replace hline := Lib.hid hline
  go_enter Try.func10, Try.ntmps10
  go_wp2_with (first | (go_at_call 12; refine (awake_any w).mono ?_; rintro e w1 ⟨rfl, hb1⟩) | (go_at_call 14; refine (hnew.out w1).mono ?_; rintro e w2 ⟨vl, rfl, hJ, hb2⟩))
  have hb12 := hb1.trans (hb2.mono hb1.size)
  clear hnew
  go_loopw [7, 8] (fun v7 v8 wr => ∃ (i nx : Nat) (s : JS), i ≤ T ∧ v8 = .int .i64 i ∧ v7 = .int .i64 nx ∧ nx < 4096 ∧ Hid (Line s true 100 nx [] 0 0) ∧ Jo wr w1.heap.size (w1.heap.size + 1) w1.heap.size vl s ∧ Hid (Rest s) ∧ Below w.heap.size w wr) (fun _ v8 _ => T - (intOf v8).toNat)
  case atStart => exact ⟨0, 0, _, Nat.zero_le _, rfl, rfl, by decide, hline, hJ, hrest, hb12⟩
  case round =>
    obtain ⟨i, nx, s, hi, rfl, rfl, hnx, hln, hJr, hrs, hbr⟩ := hrel
    by_cases hlt : i < T
    · have hltI : (i : Int) < (T : Int) := by omega
      have hms : T - (intOf (.int .i64 ((i : Int) + 1))).toNat < T - (intOf (.int .i64 (i : Int))).toNat := by simp [intOf]; omega
      replace hms := Lib.hid hms
      have hz := cutP_fine (l := l) (S := S) (f := nx) (short := true) (by omega) hS0 (show nx < rgN true from hnx) hsz
      obtain ⟨p0, _, _, p3, p4, p5⟩ := cutP_ok hz
      rw [show rgN true = 4096 from rfl] at p4 p5
      have hcut := fun W hW => cut_any (w := W) (a := a) (n := n) (c := c) (l := l) S nx true hW (by omega) (by omega)
      simp only [p4, p5, hz] at hcut
      have hfew := cutF_few (R := 4096) (short := true) (f1 := true) (f := l.length) (n := nx) hS0 (Nat.le_refl _) p0 p3
      have hnum := cutF_num (R := 4096) (short := true) hS0 (f1 := true) (f := l.length) (n := nx) (l := l) (Nat.le_refl _) hnx
      have hmost := cutF_most (R := 4096) (size := S) (short := true) (f1 := true) (f := l.length) (n := nx) (l := l)
      have hlen := cutF_len (R := 4096) (short := true) hS0 (f1 := true) (f := l.length) (n := nx) (l := l) (Nat.le_refl _)
      have hpos : 0 < (cutF 4096 S true l.length (flagN true false) nx l).1.length := by
        rw [hlen]
        exact Nat.div_pos (by omega) hS0
      generalize hX : cutF 4096 S true l.length (flagN true false) nx l = X at hcut hfew hnum hmost hpos
      obtain ⟨L, nx2⟩ := X
      simp only at hcut hfew hnum hmost hpos
      obtain ⟨m, hm⟩ : ∃ m, L.length = m := ⟨_, rfl⟩
      have hm16 : m ≤ 16 := by omega
      have hm0 : 0 < m := by omega
      have hnx2 : nx2 < 4096 := by rw [hnum]; exact Nat.mod_lt _ (by decide)
      rw [hm] at hnum
      replace hm := Lib.hid hm
      replace hX := Lib.hid hX
      replace hnum := Lib.hid hnum
      replace hcut := Lib.hid hcut
      clear hz p4 p5 hlen hpos hfew
      go_wp2_with (go_at_call 13; refine (hcut.out _ (hB.below hbr (Nat.le_refl _))).mono ?_; rintro e w5 ⟨v, rfl, hF, hb5⟩; obtain ⟨av, cv, rfl⟩ := hF.slice; rw [hm.out] at hF ⊢)
      have hJ5 := hJr.below hb5
      have hw5 := hbr.trans (hb5.mono hbr.size)
      have hmid : Mid s l L S nx 0 nx l.length [] l := ⟨rfl, by rw [show decide ((0 : Nat) = 0) = true from rfl, hX.out]; rfl, by omega, Nat.le_refl _, nx, [], hln.out, by simp; omega, fun _ => ⟨rfl, rfl⟩, fun _ => rfl⟩
      replace hmid := Lib.hid hmid
      clear hln hcut
      go_loopw [12, 13] (fun v12 v13 wr2 => ∃ (k tl : Nat) (s2 : JS), k ≤ m ∧ v13 = .int .i64 k ∧ v12 = .int .i64 tl ∧ Hid (tl = if k = m then 1 else 0) ∧ Hid (∃ n1 fu A l1, Mid s2 l L S nx k n1 fu A l1) ∧ Jo wr2 w1.heap.size (w1.heap.size + 1) w1.heap.size vl s2 ∧ Hid (Rest s2) ∧
        Fr wr2 wr.heap.size (.slice av m cv) L ∧ Below w.heap.size w wr2) (fun _ v13 _ => m - (intOf v13).toNat)
      case atStart => exact ⟨0, 0, s, Nat.zero_le _, rfl, rfl, Lib.hid (by rw [if_neg (by omega)]), Lib.hid ⟨_, _, _, _, hmid.out⟩, hJ5, hrs, hF, hw5⟩
      case round =>
        obtain ⟨k, tl, s2, hk, rfl, rfl, htl, hmd, hJ2, hrs2, hF2, hbr2⟩ := hrel
        by_cases hltk : k < m
        · have hltkI : (k : Int) < (m : Int) := by omega
          have hms2 : m - (intOf (.int .i64 ((k : Int) + 1))).toNat < m - (intOf (.int .i64 (k : Int))).toNat := by simp [intOf]; omega
          replace hms2 := Lib.hid hms2
          have htl0 : tl = 0 := by rw [htl.out, if_neg (by omega)]
          subst htl0
          obtain ⟨n1, fu, A, l1, hmd'⟩ := hmd.out
          have hfl : (L.getD k []).length ≤ 2000 := by
            have := hmost (L.getD k []) (by rw [List.getD_eq_getElem?_getD, List.getElem?_eq_getElem (show k < L.length by rw [hm.out]; exact hltk)]; exact List.getElem_mem _)
            omega
          obtain ⟨t, n2, hadd, hmd2⟩ := hmd'.add hS0 (show k < L.length by rw [hm.out]; exact hltk) (by rw [hm.out]; exact hm16) (by omega)
          rw [hm.out] at hadd
          obtain ⟨g, xa, xc, rfl, ci, hBi⟩ := hF2.at_ (i := k) (by rw [hm.out]; exact hltk) (by omega)
          have hrt := Lib.hid (hadd.rest hrs2.out (by omega)).1
          have hmd3 : Hid (∃ n1 fu A l1, Mid t l L S nx (k + 1) n1 fu A l1) := Lib.hid ⟨_, _, _, _, hmd2⟩
          clear hmd' hmd2 hmd htl
          by_cases hlast : k + 1 = m
          · rw [if_pos hlast] at hadd
            replace hadd := Lib.hid hadd
            generalize (L.getD k []).length = fl at *
            have hfl2 : Hid ((L.getD k []).length ≤ 100000) := Lib.hid (by rw [hBi.len]; omega)
            go_wp2_with (first | (go_at_call 15; refine (add_any 0 hJ2 hrs2.out hBi hfl2.out).mono ?_; rintro e w7 ⟨v7, L7, e7, t7, rfl, hR7, hJ7, hF7, hb7⟩; obtain ⟨rfl, rfl, rfl⟩ := hadd.out.one hR7; have hw7 := hJ2.under hbr2 hb1.size hb7; have hF27 := hF2.jo hJ2 hb7; obtain ⟨g7, c7, xa7, xc7, rfl, ci7, B7⟩ := hF7.one (by omega); rw [hl] at ci7 B7; have hsm := same_any _ _ _ _ _ _ _ _ w7 B7 (hB.below hw7 (Nat.le_refl _)); rw [decide_eq_true rfl] at hsm) | (go_at_call 16; refine hsm.mono ?_; rintro e w8 ⟨rfl, hb8⟩))
            go_roundw
            case rel => exact ⟨k + 1, 1, _, by omega, rfl, rfl, Lib.hid (by rw [if_pos hlast]), hmd3, hJ7.below hb8, hrt, hF27.below hb8, hw7.trans (hb8.mono hw7.size)⟩
            case measure => exact hms2.out
          · rw [if_neg hlast] at hadd
            replace hadd := Lib.hid hadd
            generalize (L.getD k []).length = fl at *
            have hfl2 : Hid ((L.getD k []).length ≤ 100000) := Lib.hid (by rw [hBi.len]; omega)
            go_wp2_with (first | (go_at_call 15; refine (add_any 0 hJ2 hrs2.out hBi hfl2.out).mono ?_; rintro e w7 ⟨v7, L7, e7, t7, rfl, hR7, hJ7, hF7, hb7⟩; obtain ⟨rfl, rfl, rfl⟩ := hadd.out.one hR7; have hw7 := hJ2.under hbr2 hb1.size hb7; have hF27 := hF2.jo hJ2 hb7; obtain ⟨a7, c7, rfl⟩ := hF7.none))
            go_roundw
            case rel => exact ⟨k + 1, 0, _, by omega, rfl, rfl, Lib.hid (by rw [if_neg hlast]), hmd3, hJ7, hrt, hF27, hw7⟩
            case measure => exact hms2.out
        · have hke : k = m := by omega
          have htl1 : tl = 1 := by rw [htl.out, if_pos hke]
          subst htl1
          have hln2 : Line s2 true 100 nx2 [] 0 0 := by
            obtain ⟨n1, fu, A, l1, hmd'⟩ := hmd.out
            obtain ⟨a2, ps2, hline2, hnum2, _, hps2⟩ := hmd'.line
            obtain rfl := hps2 (by rw [hm.out]; exact hke)
            have ha2 : a2 < 4096 := hline2.lt
            have e : a2 = nx2 := by
              have e1 := hmd'.num
              have e2 := hnum.out
              rw [List.length_nil, Nat.add_zero, Nat.mod_eq_of_lt ha2] at hnum2
              rw [hke] at e1
              omega
            rw [← e]
            exact hline2
          obtain ⟨y2, e2, _⟩ := hln2.ex
          have hHl : s2.held.length = 0 := by rw [e2]; rfl
          have hNx : s2.next = nx2 := by rw [e2]
          replace hln2 := Lib.hid hln2
          replace hHl := Lib.hid hHl
          replace hNx := Lib.hid hNx
          replace hke := Lib.hid hke
          clear e2 hmd htl hF2 hmid hF
          go_wp2_with (first | (go_at_call 22; refine (held_any hJ2).mono ?_; rintro e w' ⟨rfl, rfl⟩; rw [hHl.out]) | (go_at_call 23; refine (next_any hJ2).mono ?_; rintro e w' ⟨rfl, rfl⟩; rw [hNx.out]))
          go_roundw
          case rel => exact ⟨i + 1, nx2, s2, by omega, rfl, rfl, hnx2, hln2, hJ2, hrs2, hbr2⟩
          case measure => exact hms.out
    · have hie : i = T := by omega
      replace hie := Lib.hid hie
      have hlost : s.lost = 0 := by obtain ⟨y, e, _⟩ := hln.out.ex; rw [e]
      have hlw : wrap64 ((s.lost : Nat) : Int) = 0 := by rw [hlost]; unfold wrap64; omega
      go_wp2_with (go_at_call 21; refine (lost_any hJr).mono ?_; rintro e w' ⟨rfl, rfl⟩; rw [hlw])
      go_ret
      exact ⟨rfl, hbr⟩
end Go.Proofs.Ytglmlhbchfgliaa
