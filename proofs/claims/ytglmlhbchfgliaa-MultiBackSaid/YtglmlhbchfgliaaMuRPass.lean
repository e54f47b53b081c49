/-
  The reference's joiner passes numbers by: plainly, and its walk. No conditions.
-/
import Derived.Test.YtglmlhbchfgliaaMuRJ
namespace Go.Proofs.Ytglmlhbchfgliaa
open Go.RowKit Go.Maps
set_option maxRecDepth 100000 in
theorem info_piece : (Try.prog.info? 82).map (fun i => (i.zero, i.size, i.bytes)) = some (some (.agg #[.int .i64 0, .bool false, .bool false, .slice none 0 0]), 4, 40) := by kernel_rfl
def rkeepP (R to_ : Nat) (p : Nat × Pc) : Bool := decide (0 ≤ aheadI R to_ p.1)
def rpassP (s : JS) (to_ : Nat) : JS := { s with held := s.held.filter (rkeepP (rgN s.short) to_), next := to_ }
theorem rpass_end {w wr : World} {B b : Nat} {vl vh vh' : Value} {s : JS} {vs : List Value} {ps : List (Nat × Pc)} (to_ : Nat) (h : RJ w B b vl vh s) (hb : Below w.heap.size w wr)
    (ho : wr.ownsRow w.heap.size 82 4 vh' ps.length (prCells vs ps)) (he : Each wr B vs (ps.map (·.2.b))) (hp : ps = s.held.filter (rkeepP (rgN s.short) to_)) :
    RJ ((wr.setCell ⟨b, 4, none⟩ vh').setCell ⟨b, 2, none⟩ (.int .i64 (to_ : Nat))) B b vl vh' (rpassP s to_) ∧ ButOf (fun k => k = b) w ((wr.setCell ⟨b, 4, none⟩ vh').setCell ⟨b, 2, none⟩ (.int .i64 (to_ : Nat))) := by
  have hr := h.below hb
  have hB : ButOf (fun k => k = b) wr ((wr.setCell ⟨b, 4, none⟩ vh').setCell ⟨b, 2, none⟩ (.int .i64 (to_ : Nat))) := ((ButOf.refl (fun k => k = b) wr).set vh' (Or.inl rfl)).set _ (Or.inl rfl)
  have hne : ∀ {E n sz B'' : Nat} {v : Value} {ys : List Value}, wr.ownsRow B'' E sz v n ys → E ≠ 63 → ∀ k, v.ownBlock = some k → ¬ k = b := fun hv hE k hk e => own_blk_ne hv hr.blk hE (e ▸ hk)
  subst hp
  refine ⟨⟨(hr.blk.set 4 vh').set 2 _, own_but hr.row hB (hne hr.row (by decide)), ⟨vs, own_mono (own_but ho hB (hne ho (by decide))) (Nat.le_trans h.base (Nat.le_of_lt h.lt)), he.but hB (fun x hx => ?_)⟩, h.base⟩, (ButOf.of_below hb).trans hB⟩
  obtain ⟨l', hl'⟩ := he.mem x hx
  exact hne hl' (by decide)
/-- a fragment more -/
theorem rpass_round {w wr w5 : World} {B : Nat} {v v5 x : Value} {ps : List (Nat × Pc)} {vs : List Value} {m : Nat} {p : Pc} (hb : Below w.heap.size w wr) (ho : wr.ownsRow w.heap.size 82 4 v ps.length (prCells vs ps)) (he : Each wr B vs (ps.map (·.2.b)))
    (hx : wr.ownsRow B 5 1 x p.b.length (p.b.map bv)) (h5 : w5.ownsRow w.heap.size 82 4 v5 (ps.length + 1) (prCells vs ps ++ [.int .i64 (m : Nat), .bool p.first, .bool p.last, x])) (hg : wr.grownBy w5 v.ownBlock) :
    w5.ownsRow w.heap.size 82 4 v5 (ps ++ [(m, p)]).length (prCells (vs ++ [x]) (ps ++ [(m, p)])) ∧ Each w5 B (vs ++ [x]) ((ps ++ [(m, p)]).map (·.2.b)) ∧ Below w.heap.size w w5 := by
  have hl := he.length
  rw [List.length_map] at hl
  have hW : ButOf (fun k => v.ownBlock = some k) wr w5 := ButOf.of_grown hg (fun _ e => e)
  have hne : ∀ {y : Value} {l : List UInt8}, wr.ownsRow B 5 1 y l.length (l.map bv) → ∀ k, y.ownBlock = some k → ¬ v.ownBlock = some k := fun hy k hk => own_own_ne hy ho (by decide) hk
  refine ⟨own_congr h5 (by simp) (prCells_snoc (p := (m, p)) hl).symm, ?_, below_grown hb ho hg hb.size⟩
  rw [List.map_append]
  refine (he.but hW (fun y hy k hk => ?_)).snoc (own_but hx hW (hne hx))
  obtain ⟨l', hl'⟩ := he.mem y hy
  exact hne hl' k hk
set_option maxRecDepth 100000 in
set_option maxHeartbeats 2000000 in
theorem rpass_any {w : World} {B b : Nat} {vl vh : Value} {s : JS} (to_ : Nat) (h : RJ w B b vl vh s) (ht : to_ < rgN s.short) (hf : s.held.length ≤ 1000) (hnum : ∀ p ∈ s.held, p.1 < rgN s.short) :
    Calls Try.prog 43 #[.pointer (some ⟨b, 0, none⟩), .int .i64 (to_ : Nat)] w fun e w' => e = .returned (.tuple #[]) ∧ ∃ vh', RJ w' B b vl vh' (rpassP s to_) ∧ (∀ k, vh'.ownBlock = some k → w.heap.size ≤ k) ∧ ButOf (fun k => k = b) w w' := by
  have hlen := hf
  obtain ⟨i0, hi, hz0, hz1, hz2⟩ := info_parts info_piece
  have hi' := Lib.hid hi; clear hi
  obtain ⟨ah, ch, rfl⟩ := h.slice
  have hfI : (s.held.length : Int) ≤ 1000 := by omega
  have g4 := h.c4
  go_enter Try.func43, Try.ntmps43
  go_wp2_with fail
  go_loopw [4, 5] (fun v4 v5 wr => ∃ (k : Nat) (ps : List (Nat × Pc)) (vs : List Value), k ≤ s.held.length ∧ v5 = .int .i64 k ∧ ps.length ≤ k ∧ wr.ownsRow w.heap.size 82 4 v4 ps.length (prCells vs ps) ∧ Each wr B vs (ps.map (·.2.b)) ∧
    Hid (ps = (s.held.take k).filter (rkeepP (rgN s.short) to_)) ∧ Below w.heap.size w wr) (fun _ vi _ => s.held.length - (intOf vi).toNat)
  case atStart => exact ⟨0, [], [], Nat.zero_le _, rfl, Nat.le_refl _, World.ownsRow_nil _ _ _ _, trivial, Lib.hid (by simp), Below.refl _ _⟩
  case round =>
    obtain ⟨k, ps, vs, hk, rfl, hpk, ho, he, hps, hb⟩ := hrel
    obtain ⟨a4, c4, rfl⟩ := own_slice4 ho
    have hr := h.below hb
    have gr4 := hr.c4
    by_cases hlt : k < s.held.length
    · have hltI : (k : Int) < (s.held.length : Int) := by omega
      obtain ⟨⟨m, p⟩, hq⟩ : ∃ q, s.held[k]? = some q := ⟨_, List.getElem?_eq_getElem hlt⟩
      obtain ⟨g, c, x, e, hg, c0, c1, c2, c3, hx⟩ := hr.at_ hq
      cases e
      have hms : s.held.length - (intOf (.int .i64 ((k : Int) + 1))).toNat < s.held.length - (intOf (.int .i64 (k : Int))).toNat := by simp [intOf]; omega
      have hm : m < rgN s.short := hnum _ (List.mem_iff_getElem?.2 ⟨k, hq⟩)
      have hah := Lib.hid (rahead_any m to_ hr hm ht)
      have hkeep : rkeepP (rgN s.short) to_ (m, p) = decide (0 ≤ aheadI (rgN s.short) to_ m) := rfl
      have hps2 := hps.out
      have htk := take_more hq
      replace hms := Lib.hid hms
      replace hps := Lib.hid hps2
      replace htk := Lib.hid htk
      have hk1 : k + 1 ≤ s.held.length := by omega
      replace hk1 := Lib.hid hk1
      clear hps2 hm ht
      generalize aheadI (rgN s.short) to_ m = A at hah hkeep
      by_cases hA : 0 ≤ A
      · rw [decide_eq_true hA] at hkeep
        replace hkeep := Lib.hid hkeep
        have hm1 : ps.length + 1 ≤ maxLen := by unfold maxLen; omega
        have hm2 : (ps.length + 1) * 40 ≤ 140737488355328 := by omega
        obtain ⟨xa, xc, rfl⟩ := own_slice hx
        have hW := fun cs => below_alloc (Below.refl wr.heap.size wr) (.cells cs 82) (Nat.le_refl _)
        have hsz := hb.size
        go_wp2_with (first | (go_at_call 34; refine hah.out.mono ?_; rintro e w' ⟨rfl, rfl⟩) | (at_builtin; go_must (refine wp_appS_at rfl _ _ 61 rfl w.heap.size 82 i0 _ 4 40 Try.underlying61 hi'.out hz0 hz1 hz2 rfl (by decide) _ _ _ rfl ho [.int .i64 (m : Nat), .bool p.first, .bool p.last, .slice xa p.b.length xc] rfl (by intro u hu; simp at hu; rcases hu with rfl | rfl | rfl | rfl <;> rfl) rfl hm1 hm2 hsz ?_)))
        intro v5 w5 ho5 hg5 _
        obtain ⟨r1, r2, r3⟩ := rpass_round hb ho he hx ho5 hg5
        clear ho5 hg5 hx ho he hb hr gr4 c0 c1 c2 c3 hW hah
        go_wp2_with fail
        go_roundw
        case rel =>
          refine ⟨k + 1, ps ++ [(m, p)], vs ++ [_], hk1.out, rfl, by simp; omega, r1, r2, Lib.hid ?_, r3⟩
          rw [htk.out, List.filter_append, ← hps.out, List.filter_cons, if_pos hkeep.out]
          rfl
        case measure => exact hms.out
      · rw [decide_eq_false hA] at hkeep
        replace hkeep := Lib.hid hkeep
        have hA1 : A < 0 := by omega
        clear hA
        go_wp2_with (go_at_call 34; refine hah.out.mono ?_; rintro e w' ⟨rfl, rfl⟩)
        go_roundw
        case rel =>
          refine ⟨k + 1, ps, vs, hk1.out, rfl, by omega, ho, he, Lib.hid ?_, hb⟩
          rw [htk.out, List.filter_append, ← hps.out, List.filter_cons, if_neg (by rw [hkeep.out]; decide)]
          simp
        case measure => exact hms.out
    · have hke : k = s.held.length := by omega
      have hltI : (s.held.length : Int) ≤ (k : Int) := by omega
      have hps2 := hps.out
      rw [hke, List.take_length] at hps2
      have hfin := rpass_end to_ h hb ho he hps2
      have fr4 := hr.blk.free 4 none
      have kb := (hr.blk.set 4 (.slice a4 ps.length c4)).free 2 none
      have kc2 := (hr.blk.set 4 (.slice a4 ps.length c4)).cell 2
      have hge := fun k hk => (ho.lt k hk).1
      replace hps2 := Lib.hid hps2
      replace hps := Lib.hid hps.out
      replace hfin := Lib.hid hfin
      clear hlt hke ht
      go_wp2_with fail
      go_end0
      exact ⟨rfl, _, hfin.out.1, hge, hfin.out.2⟩
end Go.Proofs.Ytglmlhbchfgliaa
