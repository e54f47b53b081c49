/-
  MultiSame: the walk. No conditions.
-/
import Derived.Test.YtglmlhbchfgliaaMuFrag
import Derived.Test.YtglmlhbchfgliaaHeld
import Derived.Lib.SmallJoins
namespace Go.Proofs.Ytglmlhbchfgliaa
open Go.RowKit Go.Maps Go.ChangeShapes Go.WideShapes Go.Joins
section
variable {H : Type} {enc : TypeId × Value → H} {w : World} {base : Nat} {spare : Nat → Bool} {held : Bool}
/-- a Spot that came in -/
theorem open_spot {r : Reach} {b0 : Nat} {v : Value} {d : DataW H} {p : List MemPlace} (hv : Value.okWide Try.prog w r b0 35 v) (h : DataW.Trod enc Try.prog w base spare held 35 v d p) :
    ∃ (x : Int) (y : Bool), v = .agg #[.int .i64 x, .bool y] ∧ d = .agg [.lit (.int .i64 x), .lit (.bool y)] ∧ p = [] ∧ (Lit.int .i64 x).wf = true := by
  obtain ⟨v0, v1, y0, y1, n, rfl, rfl, rfl, h0, h1⟩ := open_agg2 Try.underlying35 (by kernel_rfl) (by kernel_rfl) hv h
  obtain ⟨x, e0, rfl, hw⟩ := DataW.trod_int Try.underlying3 h0
  obtain ⟨y, e1, rfl⟩ := DataW.trod_bool Try.underlying4 h1
  cases e0; cases e1
  exact ⟨x, y, rfl, rfl, rfl, hw⟩
theorem shut_spot {x : Int} {y : Bool} (hw : (Lit.int .i64 x).wf = true) : DataW.Trod enc Try.prog w base spare held 35 (.agg #[.int .i64 x, .bool y]) (.agg [.lit (.int .i64 x), .lit (.bool y)]) [] :=
  shut_agg2 (y0 := (.lit (.int .i64 x), [])) (y1 := (.lit (.bool y), [])) Try.underlying35 (by kernel_rfl) (by kernel_rfl) ⟨1, by simp [DataW.trod, Try.underlying3, hw]⟩ ⟨1, by simp [DataW.trod, Try.underlying4]⟩
end
theorem wf_i64 {x : Int} (h : (Lit.int .i64 x).wf = true) : -9223372036854775808 ≤ x ∧ x ≤ 9223372036854775807 := by
  simpa [Lit.wf, IntKind.min, IntKind.max, IntKind.signed, IntKind.bits] using h
theorem wf_u8 {x : Int} (h : (Lit.int .u8 x).wf = true) : 0 ≤ x ∧ x ≤ 255 := by
  simpa [Lit.wf, IntKind.min, IntKind.max, IntKind.signed, IntKind.bits] using h
/-- the bytes that came in are too many, or the first number is none -/
theorem same_out {w : World} (a : Option Addr) (n c : Nat) (s x : Int) (y : Bool) (hn : (1500 : Int) < n ∨ x < 0) :
    Calls Try.prog 6 #[.slice a n c, .int .u8 s, .agg #[.int .i64 x, .bool y]] w fun e w' => e = .returned (.bool true) ∧ Below w.heap.size w w' := by
  have hb0 := below_alloc (Below.refl w.heap.size w) (.cells #[.int .i64 x, .bool y] 35) (Nat.le_refl _)
  by_cases h1 : (1500 : Int) < n
  · clear hn
    go_enter Try.func6, Try.ntmps6
    go_wp2_with (go_at_call 12; refine (awake_any _).mono ?_; rintro e w2 ⟨rfl, hb2⟩)
    go_ret
    exact ⟨rfl, hb0.trans (hb2.mono hb0.size)⟩
  · have h2 : x < 0 := by omega
    have h1 : (n : Int) ≤ 1500 := by omega
    clear hn
    have k0 := Blk.new w #[.int .i64 x, .bool y] 35
    go_enter Try.func6, Try.ntmps6
    go_wp2_with (go_at_call 12; refine (awake_any _).mono ?_; rintro e w2 ⟨rfl, hb2⟩; have k2 := (k0.below hb2 k0.lt).cell 0; simp only [List.getElem?_toArray, List.getElem?_cons_zero] at k2)
    go_ret
    exact ⟨rfl, hb0.trans (hb2.mono hb0.size)⟩
theorem cutP_err {l : List UInt8} {size first : Int} {short : Bool} (h : (cutP l size first short).2.2 ≠ 0) : (cutP l size first short).1 = [] ∧ (cutP l size first short).2.1 = 0 := by
  unfold cutP at h ⊢
  split
  · exact ⟨rfl, rfl⟩
  · rename_i h1
    rw [if_neg h1] at h
    split
    · exact ⟨rfl, rfl⟩
    · rename_i h2
      rw [if_neg h2] at h
      exact absurd rfl h
theorem cutP_ok {l : List UInt8} {S f : Nat} {short : Bool} (h : (cutP l S f short).2.2 = 0) : 0 < l.length ∧ 0 < S ∧ f < rgN short ∧ (l.length - 1) / S < 16 ∧ (cutP l S f short).1 = (cutF (rgN short) S short l.length (flagN true false) f l).1 ∧
    (cutP l S f short).2.1 = (cutF (rgN short) S short l.length (flagN true false) f l).2 := by
  unfold cutP at h ⊢
  split at h
  · cases h
  · rename_i h1
    rw [if_neg h1]
    split at h
    · cases h
    · rename_i h2
      rw [if_neg h2]
      simp only [Int.toNat_natCast] at h2 ⊢
      exact ⟨by omega, by omega, by omega, by omega, rfl, rfl⟩
/-- so many fragments at the most -/
theorem cutF_few {R S : Nat} {short f1 : Bool} {f n : Nat} {l : List UInt8} (hS : 0 < S) (hl : l.length ≤ f) (h0 : 0 < l.length) (h : (l.length - 1) / S < 16) : (cutF R S short f (flagN f1 false) n l).1.length ≤ 16 := by
  rw [cutF_len hS hl, show l.length + (S - 1) = (l.length - 1) + S by omega, Nat.add_div_right _ hS]
  omega
/-- what the round meets -/
theorem frag_at {R S : Nat} {short f1 : Bool} {L : List (List UInt8)} {i f n : Nat} {l : List UInt8} (hS : 0 < S) (hi : i < L.length) (hl : l.length ≤ f) (h : L.drop i = (cutF R S short f (flagN f1 false) n l).1) :
    0 < l.length ∧ L.getD i [] = headB n (flagN f1 (decide (l.length ≤ S))) short ++ l.take S ∧ L.drop (i + 1) = (cutF R S short (f - 1) (flagN false false) ((n + 1) % R) (l.drop S)).1 ∧ (i + 1 = L.length ↔ l.length ≤ S) ∧ (l.drop S).length ≤ f - 1 := by
  have h0 : 0 < l.length := by
    cases l with
    | nil =>
      rw [cutF_nil] at h
      have := congrArg List.length h
      simp at this; omega
    | cons _ _ => simp
  obtain ⟨f, rfl⟩ : ∃ f', f = f' + 1 := ⟨f - 1, by omega⟩
  rw [cutF_one h0] at h
  have hc : L.drop i = L.getD i [] :: L.drop (i + 1) := by
    rw [List.drop_eq_getElem_cons hi, List.getD_eq_getElem?_getD, List.getElem?_eq_getElem hi]; rfl
  rw [hc] at h
  injection h with h1 h2
  have hd : (l.drop S).length ≤ f := by rw [List.length_drop]; omega
  refine ⟨h0, h1, h2, ?_, hd⟩
  have h3 := cutF_len (R := R) (short := short) hS (f1 := false) (n := (n + 1) % R) hd
  have h4 := congrArg List.length h2
  rw [h3, List.length_drop, List.length_drop] at h4
  constructor
  · intro e
    have : (l.length - S + (S - 1)) / S = 0 := by omega
    rw [Nat.div_eq_zero_iff] at this
    omega
  · intro e
    rw [show l.length - S + (S - 1) = S - 1 by omega, Nat.div_eq_of_lt (by omega)] at h4
    omega
set_option maxRecDepth 100000 in
set_option maxHeartbeats 2000000 in
theorem same_in {w : World} {a : Option Addr} {n c : Nat} {l : List UInt8} (s f : Nat) (y : Bool) (hB : Bts w a n c l) (hn : n ≤ 1500) (hs : s ≤ 255) (hf : f ≤ 9223372036854775807) :
    Calls Try.prog 6 #[.slice a n c, .int .u8 (s : Nat), .agg #[.int .i64 (f : Nat), .bool y]] w fun e w' => e = .returned (.bool true) ∧ Below w.heap.size w w' := by
  have hb0 := below_alloc (Below.refl w.heap.size w) (.cells #[.int .i64 (f : Nat), .bool y] 35) (Nat.le_refl _)
  have hnI : (n : Int) ≤ 1500 := by omega
  have hfI : (0 : Int) ≤ (f : Int) := by omega
  obtain ⟨S, hS⟩ : ∃ S, S = s + 1 := ⟨_, rfl⟩
  have hSI : (1 : Int) + (s : Int) = (S : Int) := by omega
  have hSw : IntKind.i64.wrap (1 + (s : Int)) = (S : Int) := by rw [IntKind.wrap_i64]; omega
  have hsw : IntKind.i64.wrap (s : Int) = (s : Int) := by rw [IntKind.wrap_i64]; omega
  have k0 := Blk.new w #[.int .i64 (f : Nat), .bool y] 35
  have hcut := fun W hW => cut_any (w := W) (a := a) (n := n) (c := c) (l := l) S f y hW (by omega) (by omega)
  have hSb : S ≤ 256 := by omega
  replace hS := Lib.hid hS
  by_cases hz : (cutP l S f y).2.2 = 0
  · obtain ⟨h0, h1, h2, h3, h4, h5⟩ := cutP_ok hz
    cases y
    · obtain ⟨i0, hi, hz0, hz1, hz2⟩ := info_parts Try.info5
      have hi' := Lib.hid hi; clear hi
      have hcut2 := hcut
      rw [show rgN false = 16777216 from rfl] at h2 h4 h5
      simp only [h4, h5, hz] at hcut2
      have hfew := cutF_few (R := 16777216) (short := false) (f1 := true) (f := l.length) (n := f) h1 (Nat.le_refl _) h0 h3
      have hnum := cutF_num (R := 16777216) (short := false) h1 (f1 := true) (f := l.length) (n := f) (l := l) (Nat.le_refl _) h2
      have hmost := cutF_most (R := 16777216) (size := S) (short := false) (f1 := true) (f := l.length) (n := f) (l := l)
      generalize hX : cutF 16777216 S false l.length (flagN true false) f l = X at hcut2 hfew hnum hmost
      obtain ⟨L, nx⟩ := X
      simp only at hcut2 hfew hnum hmost
      have hnl := hB.len
      obtain ⟨m, hm⟩ : ∃ m, L.length = m := ⟨_, rfl⟩
      have hm16 : m ≤ 16 := by omega
      have hmI : (m : Int) ≤ 16 := by omega
      rw [hm] at hnum
      have hnxI : (nx : Int) = ((f : Int) + (m : Int)) % 16777216 := by omega
      have hnxJ : ((f : Int) + (m : Int)).tmod 16777216 = (nx : Int) := by rw [Int.tmod_eq_emod_of_nonneg (by omega)]; omega
      replace hnxI := Lib.hid hnxI
      replace hm := Lib.hid hm
      replace hX := Lib.hid hX
      replace hcut2 := Lib.hid hcut2
      clear hcut hz h4 h5 hnum hfew
      go_enter Try.func6, Try.ntmps6
      go_wp2_with (first | (go_at_call 12; refine (awake_any _).mono ?_; rintro e w2 ⟨rfl, hb2⟩; have k2 := (k0.below hb2 k0.lt).cell 0; have k3 := (k0.below hb2 k0.lt).cell 1; simp only [List.getElem?_toArray, List.getElem?_cons_succ, List.getElem?_cons_zero] at k2 k3; have hb02 := hb0.trans (hb2.mono hb0.size)) | (go_at_call 13; refine (hcut2.out _ (hB.below hb02 (Nat.le_refl _))).mono ?_; rintro e w3 ⟨v, rfl, hF, hb3⟩; obtain ⟨av, cv, rfl⟩ := hF.slice; rw [hm.out] at hF ⊢; have k23 := (hb3.cell (p := ⟨w.heap.size, 0, none⟩) (World.block_lt_of_cell? _ _ k2)).trans k2; have k33 := (hb3.cell (p := ⟨w.heap.size, 1, none⟩) (World.block_lt_of_cell? _ _ k3)).trans k3))
      have hb03 := hb02.trans (hb3.mono hb02.size)
      clear k0 k2 k3
      go_loopw [10, 12] (fun va vi wr => ∃ (i n1 : Nat) (l1 : List UInt8) (fu : Nat) (A : List UInt8), i ≤ m ∧ vi = .int .i64 i ∧ wr.ownsRow w3.heap.size 5 1 va A.length (A.map bv) ∧ Hid (l = A ++ l1) ∧
        Hid (L.drop i = (cutF 16777216 S false fu (flagN (decide (i = 0)) false) n1 l1).1) ∧ Hid (n1 = (f + i) % 16777216) ∧ Hid (l1.length ≤ fu) ∧ Below w3.heap.size w3 wr) (fun _ vi _ => m - (intOf vi).toNat)
      case atStart => exact ⟨0, f, l, l.length, [], Nat.zero_le _, rfl, World.ownsRow_nil _ _ _ _, Lib.hid rfl, Lib.hid (by rw [show decide ((0 : Nat) = 0) = true from rfl, hX.out]; rfl), Lib.hid (by rw [Nat.add_zero, Nat.mod_eq_of_lt h2]), Lib.hid (Nat.le_refl _), Below.refl _ _⟩
      case round =>
        obtain ⟨i, n1, l1, fu, A, hi, rfl, hall, hspl, hdr0, hnn, hfu0, hbr⟩ := hrel
        have kr0 := (hbr.cell (p := ⟨w.heap.size, 0, none⟩) (World.block_lt_of_cell? _ _ k23)).trans k23
        have kr1 := (hbr.cell (p := ⟨w.heap.size, 1, none⟩) (World.block_lt_of_cell? _ _ k33)).trans k33
        by_cases hlt : i < m
        · have hltI : (i : Int) < (m : Int) := by omega
          obtain ⟨hl0, hel, hdr, hlast, hfu⟩ := frag_at h1 (show i < L.length by rw [hm.out]; exact hlt) hfu0.out hdr0.out
          rw [hm.out] at hlast
          have hn1lt : n1 < 16777216 := by rw [hnn.out]; exact Nat.mod_lt _ (by decide)
          obtain ⟨n2, hn1⟩ : ∃ n2, (n1 + 1) % 16777216 = n2 := ⟨_, rfl⟩
          rw [hn1] at hdr
          replace hdr := Lib.hid hdr
          replace hn1 := Lib.hid hn1
          replace hfu := Lib.hid hfu
          have hrem : ((f : Int) + (i : Int)).tmod 16777216 = (n1 : Int) := by rw [Int.tmod_eq_emod_of_nonneg (by omega)]; have := hnn.out; omega
          have hhd : headP (L.getD i []) false = ⟨n1, decide (i = 0), decide (l1.length ≤ S), l1.take S, 0⟩ := by rw [hel]; exact headP_headB (show n1 < rgN false from hn1lt) _
          have hfl : (L.getD i []).length ≤ 2000 := by
            have := hmost (L.getD i []) (by rw [List.getD_eq_getElem?_getD, List.getElem?_eq_getElem (show i < L.length by rw [hm.out]; exact hlt)]; exact List.getElem_mem _)
            omega
          obtain ⟨g, xa, xc, rfl, ci, hBi⟩ := (hF.below hbr).at_ (i := i) (by rw [hm.out]; exact hlt) (by omega)
          have hA1 : A.length + l1.length = n := by have := hspl.out; rw [← hnl, this, List.length_append]
          have hbl : (l1.take S).length = min S l1.length := List.length_take ..
          obtain ⟨bl, hblE⟩ : ∃ bl, (l1.take S).length = bl := ⟨_, rfl⟩
          rw [hblE] at hbl
          have hbl0 : 0 < bl := by omega
          have hblz : ((bl : Int) == 0) = false := by rw [beq_eq_false_iff_ne]; omega
          have hbln : bl ≤ 1500 := by omega
          have hm1 : A.length + bl ≤ maxLen := by unfold maxLen; omega
          have hm2 : (A.length + bl) * 1 ≤ 140737488355328 := by omega
          have hms : m - (intOf (.int .i64 ((i : Int) + 1))).toNat < m - (intOf (.int .i64 (i : Int))).toNat := by simp [intOf]; omega
          have hbS : ¬ l1.length ≤ S → bl = S := by omega
          replace hblE := Lib.hid hblE
          replace hms := Lib.hid hms
          replace hspl := Lib.hid hspl.out
          clear hbl hl0 hel hA1
          generalize hgx : (L.getD i []).length = fl at *
          replace hgx := Lib.hid hgx
          by_cases hi0 : i = 0
          · by_cases hle : l1.length ≤ S
            · have hll := hlast.2 hle
              rw [decide_eq_true hi0, decide_eq_true hle] at hhd
              replace hhd := Lib.hid hhd
              have hi0I : ((i : Int) == 0) = true := by rw [beq_iff_eq]; omega
              have hlI : ((i : Int) == (m : Int) - 1) = true := by rw [beq_iff_eq]; omega
              have hltm : decide ((i : Int) < (m : Int) - 1) = false := by simp; omega
              replace hle := Lib.hid hle
              replace hi0 := Lib.hid hi0
              clear hbS hll hlast
              go_wp2_with fail
              go_region_held3 (fun W => W.cell? ⟨g, i, none⟩ = some (.slice xa fl xc) ∧ W.cell? ⟨w.heap.size, 1, none⟩ = some (.bool false)) (first | exact ⟨ci, kr1⟩ | exact ⟨ci2, kr2⟩) ((go_at_call 18; refine (mhead_any false hBi.drew).mono ?_; rintro e w5 ⟨v5, rfl, ho5, hb5⟩; rw [hhd.out] at ho5 ⊢; simp only [Hd.res]; have hb5' := below_of_drew hb5; have ci2 := (hb5'.cell (p := ⟨g, i, none⟩) (World.block_lt_of_cell? _ _ ci)).trans ci; have kr2 := (hb5'.cell (p := ⟨w.heap.size, 1, none⟩) (World.block_lt_of_cell? _ _ kr1)).trans kr1))
              have kr3 := (hb5'.cell (p := ⟨w.heap.size, 0, none⟩) (World.block_lt_of_cell? _ _ kr0)).trans kr0
              obtain ⟨a5, c5, e5, hB5⟩ := Bts.of_own ho5 (by rw [hblE.out]; omega)
              subst e5
              rw [hblE.out] at hB5 ⊢
              have hw5 := hbr.trans (hb5'.mono hbr.size)
              have hall5 := own_below hall hb5'
              clear ci ci2 kr0 kr1 kr2 ho5 hBi hb5
              go_wp2_with (at_builtin; go_must (refine wp_appB_at rfl _ _ 27 rfl w3.heap.size 5 i0 _ 1 Try.underlying27 hi'.out hz0 hz1 hz2 rfl _ _ _ rfl hall5 a5 bl c5 _ rfl hB5 hm1 hm2 hw5.size ?_))
              intro v6 w6 ho6 hg6 _
              have hw6 := below_grown hw5 hall5 hg6 hw5.size
              go_wp2_with fail
              go_roundw
              case rel => exact ⟨i + 1, n2, l1.drop S, fu - 1, A ++ l1.take S, by omega, rfl, own_congr ho6 (by rw [List.length_append, hblE.out]) (by rw [List.map_append, List.map_take]), Lib.hid (by rw [List.append_assoc, List.take_append_drop]; exact hspl.out), Lib.hid (by rw [decide_eq_false (by omega)]; exact hdr.out), Lib.hid (by rw [← hn1.out, hnn.out, Nat.mod_add_mod, Nat.add_assoc]), hfu, hw6⟩
              case measure => exact hms.out
            · have hll := fun e => hle (hlast.1 e)
              rw [decide_eq_true hi0, decide_eq_false hle] at hhd
              replace hhd := Lib.hid hhd
              have hi0I : ((i : Int) == 0) = true := by rw [beq_iff_eq]; omega
              have hlI : ((i : Int) == (m : Int) - 1) = false := by rw [beq_eq_false_iff_ne]; omega
              have hltm : (i : Int) < (m : Int) - 1 := by omega
              have hblS : ((bl : Int) != (S : Int)) = false := by rw [hbS hle]; simp
              replace hle := Lib.hid hle
              replace hi0 := Lib.hid hi0
              clear hbS hll hlast
              go_wp2_with fail
              go_region_held3 (fun W => W.cell? ⟨g, i, none⟩ = some (.slice xa fl xc) ∧ W.cell? ⟨w.heap.size, 1, none⟩ = some (.bool false)) (first | exact ⟨ci, kr1⟩ | exact ⟨ci2, kr2⟩) ((go_at_call 18; refine (mhead_any false hBi.drew).mono ?_; rintro e w5 ⟨v5, rfl, ho5, hb5⟩; rw [hhd.out] at ho5 ⊢; simp only [Hd.res]; have hb5' := below_of_drew hb5; have ci2 := (hb5'.cell (p := ⟨g, i, none⟩) (World.block_lt_of_cell? _ _ ci)).trans ci; have kr2 := (hb5'.cell (p := ⟨w.heap.size, 1, none⟩) (World.block_lt_of_cell? _ _ kr1)).trans kr1))
              have kr3 := (hb5'.cell (p := ⟨w.heap.size, 0, none⟩) (World.block_lt_of_cell? _ _ kr0)).trans kr0
              obtain ⟨a5, c5, e5, hB5⟩ := Bts.of_own ho5 (by rw [hblE.out]; omega)
              subst e5
              rw [hblE.out] at hB5 ⊢
              have hw5 := hbr.trans (hb5'.mono hbr.size)
              have hall5 := own_below hall hb5'
              clear ci ci2 kr0 kr1 kr2 ho5 hBi hb5
              go_wp2_with (at_builtin; go_must (refine wp_appB_at rfl _ _ 27 rfl w3.heap.size 5 i0 _ 1 Try.underlying27 hi'.out hz0 hz1 hz2 rfl _ _ _ rfl hall5 a5 bl c5 _ rfl hB5 hm1 hm2 hw5.size ?_))
              intro v6 w6 ho6 hg6 _
              have hw6 := below_grown hw5 hall5 hg6 hw5.size
              go_wp2_with fail
              go_roundw
              case rel => exact ⟨i + 1, n2, l1.drop S, fu - 1, A ++ l1.take S, by omega, rfl, own_congr ho6 (by rw [List.length_append, hblE.out]) (by rw [List.map_append, List.map_take]), Lib.hid (by rw [List.append_assoc, List.take_append_drop]; exact hspl.out), Lib.hid (by rw [decide_eq_false (by omega)]; exact hdr.out), Lib.hid (by rw [← hn1.out, hnn.out, Nat.mod_add_mod, Nat.add_assoc]), hfu, hw6⟩
              case measure => exact hms.out
          · by_cases hle : l1.length ≤ S
            · have hll := hlast.2 hle
              rw [decide_eq_false hi0, decide_eq_true hle] at hhd
              replace hhd := Lib.hid hhd
              have hi0I : ((i : Int) == 0) = false := by rw [beq_eq_false_iff_ne]; omega
              have hlI : ((i : Int) == (m : Int) - 1) = true := by rw [beq_iff_eq]; omega
              have hltm : decide ((i : Int) < (m : Int) - 1) = false := by simp; omega
              replace hle := Lib.hid hle
              replace hi0 := Lib.hid hi0
              clear hbS hll hlast
              go_wp2_with fail
              go_region_held3 (fun W => W.cell? ⟨g, i, none⟩ = some (.slice xa fl xc) ∧ W.cell? ⟨w.heap.size, 1, none⟩ = some (.bool false)) (first | exact ⟨ci, kr1⟩ | exact ⟨ci2, kr2⟩) ((go_at_call 18; refine (mhead_any false hBi.drew).mono ?_; rintro e w5 ⟨v5, rfl, ho5, hb5⟩; rw [hhd.out] at ho5 ⊢; simp only [Hd.res]; have hb5' := below_of_drew hb5; have ci2 := (hb5'.cell (p := ⟨g, i, none⟩) (World.block_lt_of_cell? _ _ ci)).trans ci; have kr2 := (hb5'.cell (p := ⟨w.heap.size, 1, none⟩) (World.block_lt_of_cell? _ _ kr1)).trans kr1))
              have kr3 := (hb5'.cell (p := ⟨w.heap.size, 0, none⟩) (World.block_lt_of_cell? _ _ kr0)).trans kr0
              obtain ⟨a5, c5, e5, hB5⟩ := Bts.of_own ho5 (by rw [hblE.out]; omega)
              subst e5
              rw [hblE.out] at hB5 ⊢
              have hw5 := hbr.trans (hb5'.mono hbr.size)
              have hall5 := own_below hall hb5'
              clear ci ci2 kr0 kr1 kr2 ho5 hBi hb5
              go_wp2_with (at_builtin; go_must (refine wp_appB_at rfl _ _ 27 rfl w3.heap.size 5 i0 _ 1 Try.underlying27 hi'.out hz0 hz1 hz2 rfl _ _ _ rfl hall5 a5 bl c5 _ rfl hB5 hm1 hm2 hw5.size ?_))
              intro v6 w6 ho6 hg6 _
              have hw6 := below_grown hw5 hall5 hg6 hw5.size
              go_wp2_with fail
              go_roundw
              case rel => exact ⟨i + 1, n2, l1.drop S, fu - 1, A ++ l1.take S, by omega, rfl, own_congr ho6 (by rw [List.length_append, hblE.out]) (by rw [List.map_append, List.map_take]), Lib.hid (by rw [List.append_assoc, List.take_append_drop]; exact hspl.out), Lib.hid (by rw [decide_eq_false (by omega)]; exact hdr.out), Lib.hid (by rw [← hn1.out, hnn.out, Nat.mod_add_mod, Nat.add_assoc]), hfu, hw6⟩
              case measure => exact hms.out
            · have hll := fun e => hle (hlast.1 e)
              rw [decide_eq_false hi0, decide_eq_false hle] at hhd
              replace hhd := Lib.hid hhd
              have hi0I : ((i : Int) == 0) = false := by rw [beq_eq_false_iff_ne]; omega
              have hlI : ((i : Int) == (m : Int) - 1) = false := by rw [beq_eq_false_iff_ne]; omega
              have hltm : (i : Int) < (m : Int) - 1 := by omega
              have hblS : ((bl : Int) != (S : Int)) = false := by rw [hbS hle]; simp
              replace hle := Lib.hid hle
              replace hi0 := Lib.hid hi0
              clear hbS hll hlast
              go_wp2_with fail
              go_region_held3 (fun W => W.cell? ⟨g, i, none⟩ = some (.slice xa fl xc) ∧ W.cell? ⟨w.heap.size, 1, none⟩ = some (.bool false)) (first | exact ⟨ci, kr1⟩ | exact ⟨ci2, kr2⟩) ((go_at_call 18; refine (mhead_any false hBi.drew).mono ?_; rintro e w5 ⟨v5, rfl, ho5, hb5⟩; rw [hhd.out] at ho5 ⊢; simp only [Hd.res]; have hb5' := below_of_drew hb5; have ci2 := (hb5'.cell (p := ⟨g, i, none⟩) (World.block_lt_of_cell? _ _ ci)).trans ci; have kr2 := (hb5'.cell (p := ⟨w.heap.size, 1, none⟩) (World.block_lt_of_cell? _ _ kr1)).trans kr1))
              have kr3 := (hb5'.cell (p := ⟨w.heap.size, 0, none⟩) (World.block_lt_of_cell? _ _ kr0)).trans kr0
              obtain ⟨a5, c5, e5, hB5⟩ := Bts.of_own ho5 (by rw [hblE.out]; omega)
              subst e5
              rw [hblE.out] at hB5 ⊢
              have hw5 := hbr.trans (hb5'.mono hbr.size)
              have hall5 := own_below hall hb5'
              clear ci ci2 kr0 kr1 kr2 ho5 hBi hb5
              go_wp2_with (at_builtin; go_must (refine wp_appB_at rfl _ _ 27 rfl w3.heap.size 5 i0 _ 1 Try.underlying27 hi'.out hz0 hz1 hz2 rfl _ _ _ rfl hall5 a5 bl c5 _ rfl hB5 hm1 hm2 hw5.size ?_))
              intro v6 w6 ho6 hg6 _
              have hw6 := below_grown hw5 hall5 hg6 hw5.size
              go_wp2_with fail
              go_roundw
              case rel => exact ⟨i + 1, n2, l1.drop S, fu - 1, A ++ l1.take S, by omega, rfl, own_congr ho6 (by rw [List.length_append, hblE.out]) (by rw [List.map_append, List.map_take]), Lib.hid (by rw [List.append_assoc, List.take_append_drop]; exact hspl.out), Lib.hid (by rw [decide_eq_false (by omega)]; exact hdr.out), Lib.hid (by rw [← hn1.out, hnn.out, Nat.mod_add_mod, Nat.add_assoc]), hfu, hw6⟩
              case measure => exact hms.out
        · have hie : i = m := by omega
          have hA : A = l := by
            have h6 := congrArg List.length hdr0.out
            rw [cutF_len h1 hfu0.out, List.length_drop, hm.out] at h6
            have h7 : (l1.length + (S - 1)) / S = 0 := by omega
            rw [Nat.div_eq_zero_iff] at h7
            have h8 : l1 = [] := List.eq_nil_of_length_eq_zero (by omega)
            rw [hspl.out, h8, List.append_nil]
          have hA2 : A.length = n := by rw [hA, hnl]
          obtain ⟨aA, cA, rfl, hBA⟩ := Bts.of_own hall (by omega)
          replace hie := Lib.hid hie
          replace hA2 := Lib.hid hA2
          have hsm := same_any _ _ _ _ _ _ _ _ wr hBA ((hB.below hb03 (Nat.le_refl _)).below hbr (Nat.le_refl _))
          rw [decide_eq_true hA] at hsm
          replace hsm := Lib.hid hsm
          replace hA := Lib.hid hA
          clear hspl hdr0 hnn hfu0 hall
          go_wp2_with (go_at_call 16; refine hsm.out.mono ?_; rintro e w5 ⟨rfl, hb5⟩; have kr2 := (hb5.cell (p := ⟨w.heap.size, 0, none⟩) (World.block_lt_of_cell? _ _ kr0)).trans kr0)
          go_ret
          have hw4 := hb03.trans (hbr.mono hb03.size)
          exact ⟨rfl, hw4.trans (hb5.mono hw4.size)⟩
    · obtain ⟨i0, hi, hz0, hz1, hz2⟩ := info_parts Try.info5
      have hi' := Lib.hid hi; clear hi
      have hcut2 := hcut
      rw [show rgN true = 4096 from rfl] at h2 h4 h5
      simp only [h4, h5, hz] at hcut2
      have hfew := cutF_few (R := 4096) (short := true) (f1 := true) (f := l.length) (n := f) h1 (Nat.le_refl _) h0 h3
      have hnum := cutF_num (R := 4096) (short := true) h1 (f1 := true) (f := l.length) (n := f) (l := l) (Nat.le_refl _) h2
      have hmost := cutF_most (R := 4096) (size := S) (short := true) (f1 := true) (f := l.length) (n := f) (l := l)
      generalize hX : cutF 4096 S true l.length (flagN true false) f l = X at hcut2 hfew hnum hmost
      obtain ⟨L, nx⟩ := X
      simp only at hcut2 hfew hnum hmost
      have hnl := hB.len
      obtain ⟨m, hm⟩ : ∃ m, L.length = m := ⟨_, rfl⟩
      have hm16 : m ≤ 16 := by omega
      have hmI : (m : Int) ≤ 16 := by omega
      rw [hm] at hnum
      have hnxI : (nx : Int) = ((f : Int) + (m : Int)) % 4096 := by omega
      have hnxJ : ((f : Int) + (m : Int)).tmod 4096 = (nx : Int) := by rw [Int.tmod_eq_emod_of_nonneg (by omega)]; omega
      replace hnxI := Lib.hid hnxI
      replace hm := Lib.hid hm
      replace hX := Lib.hid hX
      replace hcut2 := Lib.hid hcut2
      clear hcut hz h4 h5 hnum hfew
      go_enter Try.func6, Try.ntmps6
      go_wp2_with (first | (go_at_call 12; refine (awake_any _).mono ?_; rintro e w2 ⟨rfl, hb2⟩; have k2 := (k0.below hb2 k0.lt).cell 0; have k3 := (k0.below hb2 k0.lt).cell 1; simp only [List.getElem?_toArray, List.getElem?_cons_succ, List.getElem?_cons_zero] at k2 k3; have hb02 := hb0.trans (hb2.mono hb0.size)) | (go_at_call 13; refine (hcut2.out _ (hB.below hb02 (Nat.le_refl _))).mono ?_; rintro e w3 ⟨v, rfl, hF, hb3⟩; obtain ⟨av, cv, rfl⟩ := hF.slice; rw [hm.out] at hF ⊢; have k23 := (hb3.cell (p := ⟨w.heap.size, 0, none⟩) (World.block_lt_of_cell? _ _ k2)).trans k2; have k33 := (hb3.cell (p := ⟨w.heap.size, 1, none⟩) (World.block_lt_of_cell? _ _ k3)).trans k3))
      have hb03 := hb02.trans (hb3.mono hb02.size)
      clear k0 k2 k3
      go_loopw [10, 12] (fun va vi wr => ∃ (i n1 : Nat) (l1 : List UInt8) (fu : Nat) (A : List UInt8), i ≤ m ∧ vi = .int .i64 i ∧ wr.ownsRow w3.heap.size 5 1 va A.length (A.map bv) ∧ Hid (l = A ++ l1) ∧
        Hid (L.drop i = (cutF 4096 S true fu (flagN (decide (i = 0)) false) n1 l1).1) ∧ Hid (n1 = (f + i) % 4096) ∧ Hid (l1.length ≤ fu) ∧ Below w3.heap.size w3 wr) (fun _ vi _ => m - (intOf vi).toNat)
      case atStart => exact ⟨0, f, l, l.length, [], Nat.zero_le _, rfl, World.ownsRow_nil _ _ _ _, Lib.hid rfl, Lib.hid (by rw [show decide ((0 : Nat) = 0) = true from rfl, hX.out]; rfl), Lib.hid (by rw [Nat.add_zero, Nat.mod_eq_of_lt h2]), Lib.hid (Nat.le_refl _), Below.refl _ _⟩
      case round =>
        obtain ⟨i, n1, l1, fu, A, hi, rfl, hall, hspl, hdr0, hnn, hfu0, hbr⟩ := hrel
        have kr0 := (hbr.cell (p := ⟨w.heap.size, 0, none⟩) (World.block_lt_of_cell? _ _ k23)).trans k23
        have kr1 := (hbr.cell (p := ⟨w.heap.size, 1, none⟩) (World.block_lt_of_cell? _ _ k33)).trans k33
        by_cases hlt : i < m
        · have hltI : (i : Int) < (m : Int) := by omega
          obtain ⟨hl0, hel, hdr, hlast, hfu⟩ := frag_at h1 (show i < L.length by rw [hm.out]; exact hlt) hfu0.out hdr0.out
          rw [hm.out] at hlast
          have hn1lt : n1 < 4096 := by rw [hnn.out]; exact Nat.mod_lt _ (by decide)
          obtain ⟨n2, hn1⟩ : ∃ n2, (n1 + 1) % 4096 = n2 := ⟨_, rfl⟩
          rw [hn1] at hdr
          replace hdr := Lib.hid hdr
          replace hn1 := Lib.hid hn1
          replace hfu := Lib.hid hfu
          have hrem : ((f : Int) + (i : Int)).tmod 4096 = (n1 : Int) := by rw [Int.tmod_eq_emod_of_nonneg (by omega)]; have := hnn.out; omega
          have hhd : headP (L.getD i []) true = ⟨n1, decide (i = 0), decide (l1.length ≤ S), l1.take S, 0⟩ := by rw [hel]; exact headP_headB (show n1 < rgN true from hn1lt) _
          have hfl : (L.getD i []).length ≤ 2000 := by
            have := hmost (L.getD i []) (by rw [List.getD_eq_getElem?_getD, List.getElem?_eq_getElem (show i < L.length by rw [hm.out]; exact hlt)]; exact List.getElem_mem _)
            omega
          obtain ⟨g, xa, xc, rfl, ci, hBi⟩ := (hF.below hbr).at_ (i := i) (by rw [hm.out]; exact hlt) (by omega)
          have hA1 : A.length + l1.length = n := by have := hspl.out; rw [← hnl, this, List.length_append]
          have hbl : (l1.take S).length = min S l1.length := List.length_take ..
          obtain ⟨bl, hblE⟩ : ∃ bl, (l1.take S).length = bl := ⟨_, rfl⟩
          rw [hblE] at hbl
          have hbl0 : 0 < bl := by omega
          have hblz : ((bl : Int) == 0) = false := by rw [beq_eq_false_iff_ne]; omega
          have hbln : bl ≤ 1500 := by omega
          have hm1 : A.length + bl ≤ maxLen := by unfold maxLen; omega
          have hm2 : (A.length + bl) * 1 ≤ 140737488355328 := by omega
          have hms : m - (intOf (.int .i64 ((i : Int) + 1))).toNat < m - (intOf (.int .i64 (i : Int))).toNat := by simp [intOf]; omega
          have hbS : ¬ l1.length ≤ S → bl = S := by omega
          replace hblE := Lib.hid hblE
          replace hms := Lib.hid hms
          replace hspl := Lib.hid hspl.out
          clear hbl hl0 hel hA1
          generalize hgx : (L.getD i []).length = fl at *
          replace hgx := Lib.hid hgx
          by_cases hi0 : i = 0
          · by_cases hle : l1.length ≤ S
            · have hll := hlast.2 hle
              rw [decide_eq_true hi0, decide_eq_true hle] at hhd
              replace hhd := Lib.hid hhd
              have hi0I : ((i : Int) == 0) = true := by rw [beq_iff_eq]; omega
              have hlI : ((i : Int) == (m : Int) - 1) = true := by rw [beq_iff_eq]; omega
              have hltm : decide ((i : Int) < (m : Int) - 1) = false := by simp; omega
              replace hle := Lib.hid hle
              replace hi0 := Lib.hid hi0
              clear hbS hll hlast
              go_wp2_with fail
              go_region_held3 (fun W => W.cell? ⟨g, i, none⟩ = some (.slice xa fl xc) ∧ W.cell? ⟨w.heap.size, 1, none⟩ = some (.bool true)) (first | exact ⟨ci, kr1⟩ | exact ⟨ci2, kr2⟩) ((go_at_call 18; refine (mhead_any true hBi.drew).mono ?_; rintro e w5 ⟨v5, rfl, ho5, hb5⟩; rw [hhd.out] at ho5 ⊢; simp only [Hd.res]; have hb5' := below_of_drew hb5; have ci2 := (hb5'.cell (p := ⟨g, i, none⟩) (World.block_lt_of_cell? _ _ ci)).trans ci; have kr2 := (hb5'.cell (p := ⟨w.heap.size, 1, none⟩) (World.block_lt_of_cell? _ _ kr1)).trans kr1))
              have kr3 := (hb5'.cell (p := ⟨w.heap.size, 0, none⟩) (World.block_lt_of_cell? _ _ kr0)).trans kr0
              obtain ⟨a5, c5, e5, hB5⟩ := Bts.of_own ho5 (by rw [hblE.out]; omega)
              subst e5
              rw [hblE.out] at hB5 ⊢
              have hw5 := hbr.trans (hb5'.mono hbr.size)
              have hall5 := own_below hall hb5'
              clear ci ci2 kr0 kr1 kr2 ho5 hBi hb5
              go_wp2_with (at_builtin; go_must (refine wp_appB_at rfl _ _ 27 rfl w3.heap.size 5 i0 _ 1 Try.underlying27 hi'.out hz0 hz1 hz2 rfl _ _ _ rfl hall5 a5 bl c5 _ rfl hB5 hm1 hm2 hw5.size ?_))
              intro v6 w6 ho6 hg6 _
              have hw6 := below_grown hw5 hall5 hg6 hw5.size
              go_wp2_with fail
              go_roundw
              case rel => exact ⟨i + 1, n2, l1.drop S, fu - 1, A ++ l1.take S, by omega, rfl, own_congr ho6 (by rw [List.length_append, hblE.out]) (by rw [List.map_append, List.map_take]), Lib.hid (by rw [List.append_assoc, List.take_append_drop]; exact hspl.out), Lib.hid (by rw [decide_eq_false (by omega)]; exact hdr.out), Lib.hid (by rw [← hn1.out, hnn.out, Nat.mod_add_mod, Nat.add_assoc]), hfu, hw6⟩
              case measure => exact hms.out
            · have hll := fun e => hle (hlast.1 e)
              rw [decide_eq_true hi0, decide_eq_false hle] at hhd
              replace hhd := Lib.hid hhd
              have hi0I : ((i : Int) == 0) = true := by rw [beq_iff_eq]; omega
              have hlI : ((i : Int) == (m : Int) - 1) = false := by rw [beq_eq_false_iff_ne]; omega
              have hltm : (i : Int) < (m : Int) - 1 := by omega
              have hblS : ((bl : Int) != (S : Int)) = false := by rw [hbS hle]; simp
              replace hle := Lib.hid hle
              replace hi0 := Lib.hid hi0
              clear hbS hll hlast
              go_wp2_with fail
              go_region_held3 (fun W => W.cell? ⟨g, i, none⟩ = some (.slice xa fl xc) ∧ W.cell? ⟨w.heap.size, 1, none⟩ = some (.bool true)) (first | exact ⟨ci, kr1⟩ | exact ⟨ci2, kr2⟩) ((go_at_call 18; refine (mhead_any true hBi.drew).mono ?_; rintro e w5 ⟨v5, rfl, ho5, hb5⟩; rw [hhd.out] at ho5 ⊢; simp only [Hd.res]; have hb5' := below_of_drew hb5; have ci2 := (hb5'.cell (p := ⟨g, i, none⟩) (World.block_lt_of_cell? _ _ ci)).trans ci; have kr2 := (hb5'.cell (p := ⟨w.heap.size, 1, none⟩) (World.block_lt_of_cell? _ _ kr1)).trans kr1))
              have kr3 := (hb5'.cell (p := ⟨w.heap.size, 0, none⟩) (World.block_lt_of_cell? _ _ kr0)).trans kr0
              obtain ⟨a5, c5, e5, hB5⟩ := Bts.of_own ho5 (by rw [hblE.out]; omega)
              subst e5
              rw [hblE.out] at hB5 ⊢
              have hw5 := hbr.trans (hb5'.mono hbr.size)
              have hall5 := own_below hall hb5'
              clear ci ci2 kr0 kr1 kr2 ho5 hBi hb5
              go_wp2_with (at_builtin; go_must (refine wp_appB_at rfl _ _ 27 rfl w3.heap.size 5 i0 _ 1 Try.underlying27 hi'.out hz0 hz1 hz2 rfl _ _ _ rfl hall5 a5 bl c5 _ rfl hB5 hm1 hm2 hw5.size ?_))
              intro v6 w6 ho6 hg6 _
              have hw6 := below_grown hw5 hall5 hg6 hw5.size
              go_wp2_with fail
              go_roundw
              case rel => exact ⟨i + 1, n2, l1.drop S, fu - 1, A ++ l1.take S, by omega, rfl, own_congr ho6 (by rw [List.length_append, hblE.out]) (by rw [List.map_append, List.map_take]), Lib.hid (by rw [List.append_assoc, List.take_append_drop]; exact hspl.out), Lib.hid (by rw [decide_eq_false (by omega)]; exact hdr.out), Lib.hid (by rw [← hn1.out, hnn.out, Nat.mod_add_mod, Nat.add_assoc]), hfu, hw6⟩
              case measure => exact hms.out
          · by_cases hle : l1.length ≤ S
            · have hll := hlast.2 hle
              rw [decide_eq_false hi0, decide_eq_true hle] at hhd
              replace hhd := Lib.hid hhd
              have hi0I : ((i : Int) == 0) = false := by rw [beq_eq_false_iff_ne]; omega
              have hlI : ((i : Int) == (m : Int) - 1) = true := by rw [beq_iff_eq]; omega
              have hltm : decide ((i : Int) < (m : Int) - 1) = false := by simp; omega
              replace hle := Lib.hid hle
              replace hi0 := Lib.hid hi0
              clear hbS hll hlast
              go_wp2_with fail
              go_region_held3 (fun W => W.cell? ⟨g, i, none⟩ = some (.slice xa fl xc) ∧ W.cell? ⟨w.heap.size, 1, none⟩ = some (.bool true)) (first | exact ⟨ci, kr1⟩ | exact ⟨ci2, kr2⟩) ((go_at_call 18; refine (mhead_any true hBi.drew).mono ?_; rintro e w5 ⟨v5, rfl, ho5, hb5⟩; rw [hhd.out] at ho5 ⊢; simp only [Hd.res]; have hb5' := below_of_drew hb5; have ci2 := (hb5'.cell (p := ⟨g, i, none⟩) (World.block_lt_of_cell? _ _ ci)).trans ci; have kr2 := (hb5'.cell (p := ⟨w.heap.size, 1, none⟩) (World.block_lt_of_cell? _ _ kr1)).trans kr1))
              have kr3 := (hb5'.cell (p := ⟨w.heap.size, 0, none⟩) (World.block_lt_of_cell? _ _ kr0)).trans kr0
              obtain ⟨a5, c5, e5, hB5⟩ := Bts.of_own ho5 (by rw [hblE.out]; omega)
              subst e5
              rw [hblE.out] at hB5 ⊢
              have hw5 := hbr.trans (hb5'.mono hbr.size)
              have hall5 := own_below hall hb5'
              clear ci ci2 kr0 kr1 kr2 ho5 hBi hb5
              go_wp2_with (at_builtin; go_must (refine wp_appB_at rfl _ _ 27 rfl w3.heap.size 5 i0 _ 1 Try.underlying27 hi'.out hz0 hz1 hz2 rfl _ _ _ rfl hall5 a5 bl c5 _ rfl hB5 hm1 hm2 hw5.size ?_))
              intro v6 w6 ho6 hg6 _
              have hw6 := below_grown hw5 hall5 hg6 hw5.size
              go_wp2_with fail
              go_roundw
              case rel => exact ⟨i + 1, n2, l1.drop S, fu - 1, A ++ l1.take S, by omega, rfl, own_congr ho6 (by rw [List.length_append, hblE.out]) (by rw [List.map_append, List.map_take]), Lib.hid (by rw [List.append_assoc, List.take_append_drop]; exact hspl.out), Lib.hid (by rw [decide_eq_false (by omega)]; exact hdr.out), Lib.hid (by rw [← hn1.out, hnn.out, Nat.mod_add_mod, Nat.add_assoc]), hfu, hw6⟩
              case measure => exact hms.out
            · have hll := fun e => hle (hlast.1 e)
              rw [decide_eq_false hi0, decide_eq_false hle] at hhd
              replace hhd := Lib.hid hhd
              have hi0I : ((i : Int) == 0) = false := by rw [beq_eq_false_iff_ne]; omega
              have hlI : ((i : Int) == (m : Int) - 1) = false := by rw [beq_eq_false_iff_ne]; omega
              have hltm : (i : Int) < (m : Int) - 1 := by omega
              have hblS : ((bl : Int) != (S : Int)) = false := by rw [hbS hle]; simp
              replace hle := Lib.hid hle
              replace hi0 := Lib.hid hi0
              clear hbS hll hlast
              go_wp2_with fail
              go_region_held3 (fun W => W.cell? ⟨g, i, none⟩ = some (.slice xa fl xc) ∧ W.cell? ⟨w.heap.size, 1, none⟩ = some (.bool true)) (first | exact ⟨ci, kr1⟩ | exact ⟨ci2, kr2⟩) ((go_at_call 18; refine (mhead_any true hBi.drew).mono ?_; rintro e w5 ⟨v5, rfl, ho5, hb5⟩; rw [hhd.out] at ho5 ⊢; simp only [Hd.res]; have hb5' := below_of_drew hb5; have ci2 := (hb5'.cell (p := ⟨g, i, none⟩) (World.block_lt_of_cell? _ _ ci)).trans ci; have kr2 := (hb5'.cell (p := ⟨w.heap.size, 1, none⟩) (World.block_lt_of_cell? _ _ kr1)).trans kr1))
              have kr3 := (hb5'.cell (p := ⟨w.heap.size, 0, none⟩) (World.block_lt_of_cell? _ _ kr0)).trans kr0
              obtain ⟨a5, c5, e5, hB5⟩ := Bts.of_own ho5 (by rw [hblE.out]; omega)
              subst e5
              rw [hblE.out] at hB5 ⊢
              have hw5 := hbr.trans (hb5'.mono hbr.size)
              have hall5 := own_below hall hb5'
              clear ci ci2 kr0 kr1 kr2 ho5 hBi hb5
              go_wp2_with (at_builtin; go_must (refine wp_appB_at rfl _ _ 27 rfl w3.heap.size 5 i0 _ 1 Try.underlying27 hi'.out hz0 hz1 hz2 rfl _ _ _ rfl hall5 a5 bl c5 _ rfl hB5 hm1 hm2 hw5.size ?_))
              intro v6 w6 ho6 hg6 _
              have hw6 := below_grown hw5 hall5 hg6 hw5.size
              go_wp2_with fail
              go_roundw
              case rel => exact ⟨i + 1, n2, l1.drop S, fu - 1, A ++ l1.take S, by omega, rfl, own_congr ho6 (by rw [List.length_append, hblE.out]) (by rw [List.map_append, List.map_take]), Lib.hid (by rw [List.append_assoc, List.take_append_drop]; exact hspl.out), Lib.hid (by rw [decide_eq_false (by omega)]; exact hdr.out), Lib.hid (by rw [← hn1.out, hnn.out, Nat.mod_add_mod, Nat.add_assoc]), hfu, hw6⟩
              case measure => exact hms.out
        · have hie : i = m := by omega
          have hA : A = l := by
            have h6 := congrArg List.length hdr0.out
            rw [cutF_len h1 hfu0.out, List.length_drop, hm.out] at h6
            have h7 : (l1.length + (S - 1)) / S = 0 := by omega
            rw [Nat.div_eq_zero_iff] at h7
            have h8 : l1 = [] := List.eq_nil_of_length_eq_zero (by omega)
            rw [hspl.out, h8, List.append_nil]
          have hA2 : A.length = n := by rw [hA, hnl]
          obtain ⟨aA, cA, rfl, hBA⟩ := Bts.of_own hall (by omega)
          replace hie := Lib.hid hie
          replace hA2 := Lib.hid hA2
          have hsm := same_any _ _ _ _ _ _ _ _ wr hBA ((hB.below hb03 (Nat.le_refl _)).below hbr (Nat.le_refl _))
          rw [decide_eq_true hA] at hsm
          replace hsm := Lib.hid hsm
          replace hA := Lib.hid hA
          clear hspl hdr0 hnn hfu0 hall
          go_wp2_with (go_at_call 16; refine hsm.out.mono ?_; rintro e w5 ⟨rfl, hb5⟩; have kr2 := (hb5.cell (p := ⟨w.heap.size, 0, none⟩) (World.block_lt_of_cell? _ _ kr0)).trans kr0)
          go_ret
          have hw4 := hb03.trans (hbr.mono hb03.size)
          exact ⟨rfl, hw4.trans (hb5.mono hw4.size)⟩
  · obtain ⟨h1, h2⟩ := cutP_err hz
    simp only [h1, h2] at hcut
    generalize (cutP l S f y).2.2 = er at hcut hz
    have hzI : (((er : Nat) : Int) != 0) = true := by rw [bne_cast]; simpa using hz
    replace hcut := Lib.hid hcut
    clear h1 h2
    go_enter Try.func6, Try.ntmps6
    go_wp2_with (first | (go_at_call 12; refine (awake_any _).mono ?_; rintro e w2 ⟨rfl, hb2⟩; have k2 := (k0.below hb2 k0.lt).cell 0; have k3 := (k0.below hb2 k0.lt).cell 1; simp only [List.getElem?_toArray, List.getElem?_cons_succ, List.getElem?_cons_zero] at k2 k3; have hb02 := hb0.trans (hb2.mono hb0.size)) | (go_at_call 13; refine (hcut.out _ (hB.below hb02 (Nat.le_refl _))).mono ?_; rintro e w3 ⟨v, rfl, hF, hb3⟩; obtain ⟨av, cv, rfl⟩ := hF.slice))
    go_ret
    exact ⟨rfl, hb02.trans (hb3.mono hb02.size)⟩
end Go.Proofs.Ytglmlhbchfgliaa
