/-
  One step of joining: plainly, and the program's walk. Conditions: a fragment has no more than 100000 bytes.
-/
import Derived.Test.YtglmlhbchfgliaaMuJoin
namespace Go.Proofs.Ytglmlhbchfgliaa
open Go.RowKit Go.Maps
/-- does a row of fragments begin with one that does not begin -/
def oddP : List Pc → Bool
  | [] => false
  | p :: _ => !p.first
/-- one step: the state behind it, and the datagrams -/
def stepP (s : JS) : Option (JS × List (List UInt8)) :=
  if (joinP s.most (runP s)).isSome then some (joinS s (joinP s.most (runP s)), joinD (joinP s.most (runP s)))
  else if oddP (runP s) then some (passP s 1, [])
  else if goneP s (runP s).length then some ({ passP s ((runP s).length + 1) with lost := s.lost + 1 }, [])
  else if 64 < s.held.length then some (passP s (leastP s + 1).toNat, [])
  else none
def stepS (s : JS) : JS := match stepP s with | none => s | some (t, _) => t
def stepD (s : JS) : List (List UInt8) := match stepP s with | none => [] | some (_, d) => d
theorem leastP_ge (s : JS) : -1 ≤ leastP s ∧ leastP s ≤ (rgN s.short : Int) := by
  have h := leastL_le (rgN s.short) s.next (s.held.map (·.1))
  refine ⟨?_, h.1⟩
  rcases leastL_mem (rgN s.short) s.next (s.held.map (·.1)) with e | ⟨m, _, e⟩
  · unfold leastP; omega
  · unfold leastP; rw [e]; exact (aheadI_le (rgN_pos _)).1
section
variable {w w' : World} {B b bm B0 o : Nat} {vl vo : Value} {s : JS} {L : List (List UInt8)}
theorem Rn.done {B' : Nat} {v : Value} {ps : List Pc} (hR : Rn w B' v ps) (h : Jo w B b bm vl s) (hO : Blk w o #[vo] 23) (hF : Fr w B0 vo L) (hb : ButOf (fun k => JFoot b bm vl k ∨ k = o ∨ vo.ownBlock = some k) w w') : Rn w' B' v ps := by
  obtain ⟨vs, h1, h2⟩ := hR.ex
  obtain ⟨xs, h3, h4⟩ := hF.ex
  obtain ⟨D, hv, m1, m2, m3⟩ := h.map
  have hn : ∀ {E n sz B'' : Nat} {v : Value} {ys : List Value}, w.ownsRow B'' E sz v n ys → E ≠ 3 → E ≠ 71 → E ≠ 23 → E ≠ 27 → ∀ k, v.ownBlock = some k → ¬ (JFoot b bm vl k ∨ k = o ∨ vo.ownBlock = some k) := fun hv hE1 hE2 hE3 hE4 k hk e => by
    rcases e with (e | e | e) | e | e
    · exact own_blk_ne hv h.blk hE2 (e ▸ hk)
    · exact ownsMap_own m1 hv (e ▸ hk)
    · exact own_own_ne hv h.row hE1 hk e
    · exact own_blk_ne hv hO hE3 (e ▸ hk)
    · exact own_own_ne hv h3 hE4 hk e
  refine ⟨vs, own_but h1 hb (hn h1 (by decide) (by decide) (by decide) (by decide)), h2.but hb (fun x hx k hk => ?_)⟩
  obtain ⟨l', hl'⟩ := h2.mem x hx
  exact hn hl' (by decide) (by decide) (by decide) (by decide) k hk
theorem Jo.setLost (h : Jo w B b bm vl s) : Jo (w.setCell ⟨b, 6, none⟩ (.int .i64 (wrap64 ((s.lost + 1 : Nat) : Int)))) B b bm vl { s with lost := s.lost + 1 } := by
  have hk := h.keep 6 (.int .i64 (wrap64 ((s.lost + 1 : Nat) : Int)))
  exact ⟨h.blk.set 6 _, hk.1, hk.2, h.base, h.bmap, h.next, h.few, h.num, h.lst⟩
/-- one thing done behind another -/
theorem Done.trans {w1 w2 : World} {vo1 : Value} (hb : ButOf (fun k => JFoot b bm vl k ∨ k = o ∨ vo.ownBlock = some k) w w1) (hn : Next w vo vo1) {s2 : JS} {L2 : List (List UInt8)} (h2 : Done w1 w2 B b bm vl B0 o vo1 s2 L2) : Done w w2 B b bm vl B0 o vo s2 L2 := by
  obtain ⟨vo2, a1, a2, a3, a4⟩ := h2.ex
  refine ⟨⟨vo2, a1, a2, a3, hn.trans a4 hb.size⟩, hb.after h2.but (fun i hi e => ?_)⟩
  rcases e with e | e | e
  · exact Or.inl e
  · exact Or.inr (Or.inl e)
  · rcases hn i e with e | e
    · exact Or.inr (Or.inr e)
    · omega
end
theorem rn_slice {w : World} {B : Nat} {v : Value} {ps : List Pc} (h : Rn w B v ps) : ∃ a c, v = .slice a ps.length c := by
  obtain ⟨vs, h1, _⟩ := h.ex
  rcases h1.2 with ⟨rfl, e⟩ | ⟨g, cap, cur, rfl, _⟩
  · exact ⟨_, _, by rw [e]⟩
  · exact ⟨_, _, rfl⟩
theorem rn_slice2 {w : World} {B m : Nat} {v : Value} {ps : List Pc} (h : Rn w B v ps) (hm : ps.length = m) : ∃ a c, v = .slice a m c := by
  subst hm; exact rn_slice h
theorem rn_head {w : World} {B m c : Nat} {a : Option Addr} {p : Pc} {r : List Pc} {f : Bool} (h : Rn w B (.slice a m c) (p :: r)) (hf : p.first = f) (_ : (p :: r).length = m) : ∃ g, a = some ⟨g, 0, none⟩ ∧ w.cell? ⟨g, 0, none⟩ = some (.bool f) := by
  obtain ⟨g, cg, xg, evg, hgl, c0, _⟩ := h.at_ (k := 0) (p := p) rfl
  simp only [Nat.zero_mul, hf] at c0
  cases evg
  exact ⟨g, rfl, c0⟩
theorem wrap_more (x : Int) : IntKind.i64.wrap (wrap64 x + 1) = wrap64 (x + 1) ∧ wrap64 (wrap64 x + 1) = wrap64 (x + 1) := by
  rw [IntKind.wrap_i64]; unfold wrap64; omega
/-- and then numbers are passed by -/
theorem Done.more {w w2 w4 : World} {B b bm B0 o : Nat} {vl vo vo2 : Value} {s s' : JS} {L L' : List (List UInt8)} (hT : Done w w2 B b bm vl B0 o vo s L') (hJ2 : Jo w2 B b bm vl s) (hO2 : Blk w2 o #[vo2] 23) (hF2 : Fr w2 B0 vo2 L) (hn2 : Next w vo vo2)
    (hJ4 : Jo w4 B b bm vl s') (hp4 : ButOf (fun k => k = b ∨ k = bm) w2 w4) : Done w w4 B b bm vl B0 o vo s' L :=
  Done.trans hT.but hn2 (Done.pass hJ2 hO2 hF2 (Below.refl _ _) hJ4 hp4)
set_option maxRecDepth 100000 in
set_option maxHeartbeats 2000000 in
theorem step_any {w : World} {B b bm B0 o : Nat} {vl vo : Value} {s : JS} {L : List (List UInt8)} (h : Jo w B b bm vl s) (hm : Mild s) (hla : s.last.length ≤ 1000) (hO : Blk w o #[vo] 23) (hF : Fr w B0 vo L) (hB0 : B0 ≤ w.heap.size) (hL : L.length ≤ 1000) :
    Calls Try.prog 30 #[.pointer (some ⟨b, 0, none⟩), .pointer (some ⟨o, 0, none⟩)] w fun e w' => e = .returned (.bool (stepP s).isSome) ∧ Done w w' B b bm vl B0 o vo (stepS s) (L ++ stepD s) := by
  have hrl := runP_len h
  have hfew := h.few
  have hrm : ∀ p ∈ runP s, p.b.length ≤ 100000 := fun p hp => by
    obtain ⟨m, hm2⟩ := runF_mem hp
    exact hm _ hm2
  have hJ := fun W v hW hl hO2 hF2 hB2 => joined_any (w := W) (B := B) (b := b) (bm := bm) (vl := vl) (s := s) (B0 := B0) (o := o) (vo := vo) (L := L) (v := v) (l := runP s) hW hl (by omega) hrm hO2 hF2 hB2 hL
  replace hJ := Lib.hid hJ
  cases hjp : (joinP s.most (runP s)).isSome
  rotate_left
  · have e1 : stepP s = some (joinS s (joinP s.most (runP s)), joinD (joinP s.most (runP s))) := by unfold stepP; rw [if_pos hjp]
    have e2 : stepS s = joinS s (joinP s.most (runP s)) := by unfold stepS; rw [e1]
    have e3 : stepD s = joinD (joinP s.most (runP s)) := by unfold stepD; rw [e1]
    rw [e1, e2, e3]
    have hjp2 := Lib.hid hjp
    clear e1 e2 e3 hjp
    go_enter Try.func30, Try.ntmps30
    go_wp2_with (first | (go_at_call 38; refine (run_any h).mono ?_; rintro e w1 ⟨v, rfl, hR, _, hb⟩) | (go_at_call 39; refine (hJ.out _ _ (h.below hb) hR (hO.but (K := fun _ => False) (ButOf.of_below hb) (fun h => h)) (hF.below hb) (Nat.le_trans hB0 hb.size)).mono ?_; rintro e w2 ⟨rfl, hD⟩; rw [hjp2.out]))
    go_ret
    exact ⟨rfl, Done.trans (ButOf.of_below hb) (Next.refl _ _) hD⟩
-- GENERATED (gen_mustep.py)
  · have hjn : joinP s.most (runP s) = none := by cases hc : joinP s.most (runP s) with | none => rfl | some _ => rw [hc] at hjp; cases hjp
    have hjp2 := Lib.hid hjp
    have e0 : stepP s = if oddP (runP s) then some (passP s 1, [])
        else if goneP s (runP s).length then some ({ passP s ((runP s).length + 1) with lost := s.lost + 1 }, [])
        else if 64 < s.held.length then some (passP s (leastP s + 1).toNat, [])
        else none := by rw [stepP, if_neg (by rw [hjp]; simp)]
    rw [hjn, show L ++ joinD none = L from by simp [joinD], show joinS s none = s from rfl] at hJ
    rw [hjn] at hjp2
    have hS2 : ∀ {t}, stepP s = some (t, []) → stepS s = t ∧ L ++ stepD s = L := fun e => ⟨by unfold stepS; rw [e], by unfold stepD; rw [e]; simp⟩
    clear hjp
    generalize hls : runP s = l at *
    replace hls := Lib.hid hls
    obtain ⟨m, hm0⟩ : ∃ m, l.length = m := ⟨_, rfl⟩
    rw [hm0] at hrl
    cases l with
    | nil =>
      have hmI : ¬ ((0 : Int) < (m : Int)) := by simp at hm0; omega
      replace hm0 := Lib.hid hm0
      clear hjn
      simp only [oddP] at e0
      rw [if_neg (by simp), hm0.out] at e0
      have hgn := fun W hW => gone_any (w := W) (B := B) (b := b) (bm := bm) (vl := vl) (s := s) m hW (by omega) hla
      cases hgo : goneP s m
      · simp only [hgo] at hgn
        rw [hgo, if_neg (by simp)] at e0
        replace hgn := Lib.hid hgn
        by_cases h64 : 64 < s.held.length
        · rw [if_pos h64] at e0
          have hS3 := hS2 e0
          replace e0 := Lib.hid e0
          replace hS3 := Lib.hid hS3
          have h64I : (64 : Int) < (s.held.length : Int) := by omega
          have hlb := leastP_ge s
          have hRl := rgN_two s.short
          have hle := fun W hW => least_any (w := W) (B := B) (b := b) (bm := bm) (vl := vl) (s := s) hW
          have hps := fun W hW => pass_any (w := W) (B := B) (b := b) (bm := bm) (vl := vl) (s := s) (leastP s + 1).toNat hW (by omega)
          have hwk : IntKind.i64.wrap (leastP s + 1) = ((leastP s + 1).toNat : Int) := by rw [IntKind.wrap_i64]; omega
          have hlI : -1 ≤ leastP s ∧ leastP s ≤ 16777216 := by omega
          obtain ⟨hl1, hl2⟩ := hlI
          generalize (leastP s + 1).toNat = K at hps hwk e0 hS3
          generalize leastP s = A at hwk hle hl1 hl2
          replace hps := Lib.hid hps
          replace hle := Lib.hid hle
          clear hS2 hgo hRl hlb
          go_enter Try.func30, Try.ntmps30
          go_wp2_with (first | (go_at_call 38; refine (run_any h).mono ?_; rintro e w1 ⟨v, rfl, hR, _, hb⟩; rw [hls.out] at hR; obtain ⟨av, cv, rfl⟩ := rn_slice2 hR hm0.out) | (go_at_call 39; refine (hJ.out _ _ (h.below hb) hR (hO.but (K := fun _ => False) (ButOf.of_below hb) (fun h => h)) (hF.below hb) (Nat.le_trans hB0 hb.size)).mono ?_; rintro e w2 ⟨rfl, hD⟩; rw [hjp2.out]; have hT := Done.trans (ButOf.of_below hb) (Next.refl _ _) hD; obtain ⟨vo2, hJ2, hO2, hF2, hn2⟩ := hT.ex) | (go_at_call 41; refine (hgn.out _ hJ2).mono ?_; rintro e w3 ⟨rfl, hb3⟩; have hJ3 := hJ2.below hb3; have g4 := hJ3.c4; obtain ⟨D, hv, m1, m2, m3⟩ := hJ3.map; have hsz := m2.size; rw [m3.length] at hsz) | (at_len; refine wpList_len_own _ rfl _ 69 rfl 3 75 Try.underlying69 _ bm _ D rfl m1 ?_; rw [hsz]) | (go_at_call 42; refine (hle.out _ hJ3).mono ?_; rintro e w4 ⟨rfl, hb4⟩; have hJ4 := hJ3.below hb4) | (go_at_call 40; refine (hps.out _ hJ4).mono ?_; rintro e w5 ⟨rfl, hJ5, hp5⟩))
          go_ret
          rw [e0.out, hS3.out.1, hS3.out.2]
          exact ⟨rfl, Done.trans hT.but hn2 (Done.pass hJ2 hO2 hF2 (hb3.trans (hb4.mono hb3.size)) hJ5 hp5)⟩
        · rw [if_neg h64] at e0
          replace e0 := Lib.hid e0
          have h64I : ¬ ((64 : Int) < (s.held.length : Int)) := by omega
          clear hS2 hgo
          go_enter Try.func30, Try.ntmps30
          go_wp2_with (first | (go_at_call 38; refine (run_any h).mono ?_; rintro e w1 ⟨v, rfl, hR, _, hb⟩; rw [hls.out] at hR; obtain ⟨av, cv, rfl⟩ := rn_slice2 hR hm0.out) | (go_at_call 39; refine (hJ.out _ _ (h.below hb) hR (hO.but (K := fun _ => False) (ButOf.of_below hb) (fun h => h)) (hF.below hb) (Nat.le_trans hB0 hb.size)).mono ?_; rintro e w2 ⟨rfl, hD⟩; rw [hjp2.out]; have hT := Done.trans (ButOf.of_below hb) (Next.refl _ _) hD; obtain ⟨vo2, hJ2, hO2, hF2, hn2⟩ := hT.ex) | (go_at_call 41; refine (hgn.out _ hJ2).mono ?_; rintro e w3 ⟨rfl, hb3⟩; have hJ3 := hJ2.below hb3; have g4 := hJ3.c4; obtain ⟨D, hv, m1, m2, m3⟩ := hJ3.map; have hsz := m2.size; rw [m3.length] at hsz) | (at_len; refine wpList_len_own _ rfl _ 69 rfl 3 75 Try.underlying69 _ bm _ D rfl m1 ?_; rw [hsz]))
          go_ret
          have eS : stepS s = s := by unfold stepS; rw [e0.out]
          have eD : L ++ stepD s = L := by unfold stepD; rw [e0.out]; simp
          rw [e0.out, eS, eD]
          exact ⟨rfl, Done.trans hT.but hn2 (Done.still hJ2 hO2 hF2 hb3)⟩
      · simp only [hgo] at hgn
        rw [hgo, if_pos rfl] at e0
        have hS3 := hS2 e0
        replace e0 := Lib.hid e0
        replace hS3 := Lib.hid hS3
        replace hgn := Lib.hid hgn
        obtain ⟨hwl1, hwl2⟩ := wrap_more (s.lost : Int)
        have hps := fun W hW => pass_any (w := W) (B := B) (b := b) (bm := bm) (vl := vl) (s := s) (m + 1) hW (by omega)
        have hwk : IntKind.i64.wrap ((m : Int) + 1) = ((m + 1 : Nat) : Int) := by rw [IntKind.wrap_i64]; omega
        have hst := fun W (hW : Jo W B b bm vl (passP s (m + 1))) => And.intro hW.c6 hW.setLost
        simp only [show (passP s (m + 1)).lost = s.lost from rfl, Int.natCast_add, Int.cast_ofNat_Int] at hst
        generalize hKe : m + 1 = K at hps e0 hS3 hst
        have hwk2 : (m : Int) + 1 = (K : Int) := by omega
        replace hKe := Lib.hid hKe
        generalize wrap64 ((s.lost : Int) + 1) = Y at hwl1 hwl2 hst
        generalize wrap64 (s.lost : Int) = X at hwl1 hwl2 hst
        clear hS2 hgo hwk
        replace hst := Lib.hid hst
        replace hps := Lib.hid hps
        go_enter Try.func30, Try.ntmps30
        go_wp2_with (first | (go_at_call 38; refine (run_any h).mono ?_; rintro e w1 ⟨v, rfl, hR, _, hb⟩; rw [hls.out] at hR; obtain ⟨av, cv, rfl⟩ := rn_slice2 hR hm0.out) | (go_at_call 39; refine (hJ.out _ _ (h.below hb) hR (hO.but (K := fun _ => False) (ButOf.of_below hb) (fun h => h)) (hF.below hb) (Nat.le_trans hB0 hb.size)).mono ?_; rintro e w2 ⟨rfl, hD⟩; rw [hjp2.out]; have hT := Done.trans (ButOf.of_below hb) (Next.refl _ _) hD; obtain ⟨vo2, hJ2, hO2, hF2, hn2⟩ := hT.ex) | (go_at_call 41; refine (hgn.out _ hJ2).mono ?_; rintro e w3 ⟨rfl, hb3⟩; have hJ3 := hJ2.below hb3) | (go_at_call 40; refine (hps.out _ hJ3).mono ?_; rintro e w5 ⟨rfl, hJ5, hp5⟩; obtain ⟨g6, hJ6⟩ := hst.out _ hJ5; have f6 := hJ5.blk.free 6 none))
        go_ret
        rw [e0.out, hS3.out.1, hS3.out.2]
        exact ⟨rfl, Done.trans hT.but hn2 (Done.pass hJ2 hO2 hF2 hb3 hJ6 (hp5.set _ (Or.inl (Or.inl rfl))))⟩
    | cons p r =>
      have hmI : (0 : Int) < (m : Int) := by simp at hm0; omega
      replace hm0 := Lib.hid hm0
      clear hjn
      cases hpf : p.first
      · simp only [oddP, hpf, Bool.not_false, if_true] at e0
        have hS3 := hS2 e0
        replace e0 := Lib.hid e0
        replace hS3 := Lib.hid hS3
        clear hS2
        go_enter Try.func30, Try.ntmps30
        go_wp2_with (first | (go_at_call 38; refine (run_any h).mono ?_; rintro e w1 ⟨v, rfl, hR, _, hb⟩; rw [hls.out] at hR; obtain ⟨av, cv, rfl⟩ := rn_slice2 hR hm0.out) | (go_at_call 39; refine (hJ.out _ _ (h.below hb) hR (hO.but (K := fun _ => False) (ButOf.of_below hb) (fun h => h)) (hF.below hb) (Nat.le_trans hB0 hb.size)).mono ?_; rintro e w2 ⟨rfl, hD⟩; rw [hjp2.out]; have hT := Done.trans (ButOf.of_below hb) (Next.refl _ _) hD; obtain ⟨vo2, hJ2, hO2, hF2, hn2⟩ := hT.ex; have hR2 := hR.done (h.below hb) (hO.but (K := fun _ => False) (ButOf.of_below hb) (fun h => h)) (hF.below hb) hD.but; obtain ⟨g, hg0, c0⟩ := rn_head hR2 hpf hm0.out; subst hg0) | (go_at_call 40; refine (pass_any 1 hJ2 (by omega)).mono ?_; rintro e w4 ⟨rfl, hJ4, hp4⟩))
        go_ret
        rw [e0.out, hS3.out.1, hS3.out.2]
        exact ⟨rfl, Done.more hT hJ2 hO2 hF2 hn2 hJ4 hp4⟩
      · simp only [oddP, hpf, Bool.not_true] at e0
        rw [if_neg (by simp), hm0.out] at e0
        have hgn := fun W hW => gone_any (w := W) (B := B) (b := b) (bm := bm) (vl := vl) (s := s) m hW (by omega) hla
        cases hgo : goneP s m
        · simp only [hgo] at hgn
          rw [hgo, if_neg (by simp)] at e0
          replace hgn := Lib.hid hgn
          by_cases h64 : 64 < s.held.length
          · rw [if_pos h64] at e0
            have hS3 := hS2 e0
            replace e0 := Lib.hid e0
            replace hS3 := Lib.hid hS3
            have h64I : (64 : Int) < (s.held.length : Int) := by omega
            have hlb := leastP_ge s
            have hRl := rgN_two s.short
            have hle := fun W hW => least_any (w := W) (B := B) (b := b) (bm := bm) (vl := vl) (s := s) hW
            have hps := fun W hW => pass_any (w := W) (B := B) (b := b) (bm := bm) (vl := vl) (s := s) (leastP s + 1).toNat hW (by omega)
            have hwk : IntKind.i64.wrap (leastP s + 1) = ((leastP s + 1).toNat : Int) := by rw [IntKind.wrap_i64]; omega
            have hlI : -1 ≤ leastP s ∧ leastP s ≤ 16777216 := by omega
            obtain ⟨hl1, hl2⟩ := hlI
            generalize (leastP s + 1).toNat = K at hps hwk e0 hS3
            generalize leastP s = A at hwk hle hl1 hl2
            replace hps := Lib.hid hps
            replace hle := Lib.hid hle
            clear hS2 hgo hRl hlb
            go_enter Try.func30, Try.ntmps30
            go_wp2_with (first | (go_at_call 38; refine (run_any h).mono ?_; rintro e w1 ⟨v, rfl, hR, _, hb⟩; rw [hls.out] at hR; obtain ⟨av, cv, rfl⟩ := rn_slice2 hR hm0.out) | (go_at_call 39; refine (hJ.out _ _ (h.below hb) hR (hO.but (K := fun _ => False) (ButOf.of_below hb) (fun h => h)) (hF.below hb) (Nat.le_trans hB0 hb.size)).mono ?_; rintro e w2 ⟨rfl, hD⟩; rw [hjp2.out]; have hT := Done.trans (ButOf.of_below hb) (Next.refl _ _) hD; obtain ⟨vo2, hJ2, hO2, hF2, hn2⟩ := hT.ex; have hR2 := hR.done (h.below hb) (hO.but (K := fun _ => False) (ButOf.of_below hb) (fun h => h)) (hF.below hb) hD.but; obtain ⟨g, hg0, c0⟩ := rn_head hR2 hpf hm0.out; subst hg0) | (go_at_call 41; refine (hgn.out _ hJ2).mono ?_; rintro e w3 ⟨rfl, hb3⟩; have hJ3 := hJ2.below hb3; have g4 := hJ3.c4; obtain ⟨D, hv, m1, m2, m3⟩ := hJ3.map; have hsz := m2.size; rw [m3.length] at hsz) | (at_len; refine wpList_len_own _ rfl _ 69 rfl 3 75 Try.underlying69 _ bm _ D rfl m1 ?_; rw [hsz]) | (go_at_call 42; refine (hle.out _ hJ3).mono ?_; rintro e w4 ⟨rfl, hb4⟩; have hJ4 := hJ3.below hb4) | (go_at_call 40; refine (hps.out _ hJ4).mono ?_; rintro e w5 ⟨rfl, hJ5, hp5⟩))
            go_ret
            rw [e0.out, hS3.out.1, hS3.out.2]
            exact ⟨rfl, Done.trans hT.but hn2 (Done.pass hJ2 hO2 hF2 (hb3.trans (hb4.mono hb3.size)) hJ5 hp5)⟩
          · rw [if_neg h64] at e0
            replace e0 := Lib.hid e0
            have h64I : ¬ ((64 : Int) < (s.held.length : Int)) := by omega
            clear hS2 hgo
            go_enter Try.func30, Try.ntmps30
            go_wp2_with (first | (go_at_call 38; refine (run_any h).mono ?_; rintro e w1 ⟨v, rfl, hR, _, hb⟩; rw [hls.out] at hR; obtain ⟨av, cv, rfl⟩ := rn_slice2 hR hm0.out) | (go_at_call 39; refine (hJ.out _ _ (h.below hb) hR (hO.but (K := fun _ => False) (ButOf.of_below hb) (fun h => h)) (hF.below hb) (Nat.le_trans hB0 hb.size)).mono ?_; rintro e w2 ⟨rfl, hD⟩; rw [hjp2.out]; have hT := Done.trans (ButOf.of_below hb) (Next.refl _ _) hD; obtain ⟨vo2, hJ2, hO2, hF2, hn2⟩ := hT.ex; have hR2 := hR.done (h.below hb) (hO.but (K := fun _ => False) (ButOf.of_below hb) (fun h => h)) (hF.below hb) hD.but; obtain ⟨g, hg0, c0⟩ := rn_head hR2 hpf hm0.out; subst hg0) | (go_at_call 41; refine (hgn.out _ hJ2).mono ?_; rintro e w3 ⟨rfl, hb3⟩; have hJ3 := hJ2.below hb3; have g4 := hJ3.c4; obtain ⟨D, hv, m1, m2, m3⟩ := hJ3.map; have hsz := m2.size; rw [m3.length] at hsz) | (at_len; refine wpList_len_own _ rfl _ 69 rfl 3 75 Try.underlying69 _ bm _ D rfl m1 ?_; rw [hsz]))
            go_ret
            have eS : stepS s = s := by unfold stepS; rw [e0.out]
            have eD : L ++ stepD s = L := by unfold stepD; rw [e0.out]; simp
            rw [e0.out, eS, eD]
            exact ⟨rfl, Done.trans hT.but hn2 (Done.still hJ2 hO2 hF2 hb3)⟩
        · simp only [hgo] at hgn
          rw [hgo, if_pos rfl] at e0
          have hS3 := hS2 e0
          replace e0 := Lib.hid e0
          replace hS3 := Lib.hid hS3
          replace hgn := Lib.hid hgn
          obtain ⟨hwl1, hwl2⟩ := wrap_more (s.lost : Int)
          have hps := fun W hW => pass_any (w := W) (B := B) (b := b) (bm := bm) (vl := vl) (s := s) (m + 1) hW (by omega)
          have hwk : IntKind.i64.wrap ((m : Int) + 1) = ((m + 1 : Nat) : Int) := by rw [IntKind.wrap_i64]; omega
          have hst := fun W (hW : Jo W B b bm vl (passP s (m + 1))) => And.intro hW.c6 hW.setLost
          simp only [show (passP s (m + 1)).lost = s.lost from rfl, Int.natCast_add, Int.cast_ofNat_Int] at hst
          generalize hKe : m + 1 = K at hps e0 hS3 hst
          have hwk2 : (m : Int) + 1 = (K : Int) := by omega
          replace hKe := Lib.hid hKe
          generalize wrap64 ((s.lost : Int) + 1) = Y at hwl1 hwl2 hst
          generalize wrap64 (s.lost : Int) = X at hwl1 hwl2 hst
          clear hS2 hgo hwk
          replace hst := Lib.hid hst
          replace hps := Lib.hid hps
          go_enter Try.func30, Try.ntmps30
          go_wp2_with (first | (go_at_call 38; refine (run_any h).mono ?_; rintro e w1 ⟨v, rfl, hR, _, hb⟩; rw [hls.out] at hR; obtain ⟨av, cv, rfl⟩ := rn_slice2 hR hm0.out) | (go_at_call 39; refine (hJ.out _ _ (h.below hb) hR (hO.but (K := fun _ => False) (ButOf.of_below hb) (fun h => h)) (hF.below hb) (Nat.le_trans hB0 hb.size)).mono ?_; rintro e w2 ⟨rfl, hD⟩; rw [hjp2.out]; have hT := Done.trans (ButOf.of_below hb) (Next.refl _ _) hD; obtain ⟨vo2, hJ2, hO2, hF2, hn2⟩ := hT.ex; have hR2 := hR.done (h.below hb) (hO.but (K := fun _ => False) (ButOf.of_below hb) (fun h => h)) (hF.below hb) hD.but; obtain ⟨g, hg0, c0⟩ := rn_head hR2 hpf hm0.out; subst hg0) | (go_at_call 41; refine (hgn.out _ hJ2).mono ?_; rintro e w3 ⟨rfl, hb3⟩; have hJ3 := hJ2.below hb3) | (go_at_call 40; refine (hps.out _ hJ3).mono ?_; rintro e w5 ⟨rfl, hJ5, hp5⟩; obtain ⟨g6, hJ6⟩ := hst.out _ hJ5; have f6 := hJ5.blk.free 6 none))
          go_ret
          rw [e0.out, hS3.out.1, hS3.out.2]
          exact ⟨rfl, Done.trans hT.but hn2 (Done.pass hJ2 hO2 hF2 hb3 hJ6 (hp5.set _ (Or.inl (Or.inl rfl))))⟩
end Go.Proofs.Ytglmlhbchfgliaa
