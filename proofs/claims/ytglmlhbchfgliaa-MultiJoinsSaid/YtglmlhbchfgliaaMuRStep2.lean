/-
  The end of the reference's step: nothing can be joined. No conditions.
-/
import Derived.Test.YtglmlhbchfgliaaMuRStep
namespace Go.Proofs.Ytglmlhbchfgliaa
open Go.RowKit Go.Maps
/-- the least so far -/
def LeastR (s : JS) (k : Nat) (A : Int) : Prop := (k = 0 ∧ A = -1) ∨ (0 < k ∧ 0 ≤ A ∧ A ≤ (rgN s.short : Int) ∧ (∀ p ∈ s.held.take k, A ≤ aheadI (rgN s.short) s.next p.1) ∧ ∃ p ∈ s.held.take k, A = aheadI (rgN s.short) s.next p.1)
theorem LeastR.next {s : JS} {k n : Nat} {A : Int} {p : Pc} (h : LeastR s k A) (hq : s.held[k]? = some (n, p)) (h0 : 0 ≤ aheadI (rgN s.short) s.next n) : LeastR s (k + 1) (if A < 0 ∨ aheadI (rgN s.short) s.next n < A then aheadI (rgN s.short) s.next n else A) := by
  have htk := take_more hq
  have hle := (aheadI_le (rgN_pos s.short) (base := s.next) (n := n)).2
  refine Or.inr ⟨by omega, ?_⟩
  rw [htk]
  rcases h with ⟨rfl, rfl⟩ | ⟨hk, hA, hAR, h1, q, hq1, hq2⟩
  · rw [if_pos (Or.inl (by omega))]
    exact ⟨h0, by omega, fun x hx => by simp at hx; subst hx; exact Int.le_refl _, (n, p), by simp, rfl⟩
  · by_cases hc : aheadI (rgN s.short) s.next n < A
    · rw [if_pos (Or.inr hc)]
      refine ⟨h0, by omega, fun x hx => ?_, (n, p), by simp, rfl⟩
      rcases List.mem_append.1 hx with e | e
      · have := h1 x e; omega
      · simp at e; subst e; exact Int.le_refl _
    · rw [if_neg (by omega)]
      refine ⟨hA, hAR, fun x hx => ?_, q, List.mem_append_left _ hq1, hq2⟩
      rcases List.mem_append.1 hx with e | e
      · exact h1 x e
      · simp at e; subst e; exact (by omega : A ≤ aheadI (rgN s.short) s.next n)
theorem LeastR.end_ {s : JS} {A : Int} (h : LeastR s s.held.length A) (hn : 0 < s.held.length) : A = leastP s ∧ 0 ≤ A := by
  rcases h with ⟨h0, _⟩ | ⟨_, hA, hAR, h1, q, hq1, hq2⟩
  · omega
  · rw [List.take_length] at h1 hq1
    have h2 := (leastL_le (rgN s.short) s.next (s.held.map (·.1))).2 q.1 (List.mem_map.2 ⟨q, hq1, rfl⟩)
    have h3 : leastL (rgN s.short) s.next (s.held.map (·.1)) = leastP s := rfl
    rw [h3, ← hq2] at h2
    refine ⟨?_, hA⟩
    rcases leastL_mem (rgN s.short) s.next (s.held.map (·.1)) with e | ⟨m, hm, e⟩
    · rw [h3] at e; omega
    · rw [h3] at e
      obtain ⟨x, hx, rfl⟩ := List.mem_map.1 hm
      have := h1 x hx
      omega
section
variable {w : World} {B b : Nat} {vl vh : Value} {s : JS} {p : Pc} {r : List Pc}
theorem rfind_run (h : RJ w B b vl vh s) (hk : Ok s) {k : Nat} (hkm : k ≤ (runP s).length) : ∃ i : Int, ((k < (runP s).length ∧ 0 ≤ i) ∨ (k = (runP s).length ∧ i = -1)) ∧
    Calls Try.prog 35 #[.pointer (some ⟨b, 0, none⟩), .int .i64 (((s.next + k) % rgN s.short : Nat) : Int)] w fun e w' => e = .returned (.int .i64 i) ∧ w = w' := by
  have hg := run_at hk.next hk.few hkm
  have hf := hk.few
  cases hp : (runP s)[k]? with
  | none =>
    rw [hp] at hg
    rw [List.getElem?_eq_none_iff] at hp
    exact ⟨-1, Or.inr ⟨by omega, rfl⟩, rfind_no _ h (by omega) hg⟩
  | some q =>
    rw [hp] at hg
    obtain ⟨i, hq, hne⟩ := find_ex hg
    exact ⟨i, Or.inl ⟨(List.getElem?_eq_some_iff.1 hp).1, by omega⟩, rfind_yes h (by omega) hq hne⟩
theorem RJ.drewN (h : RJ w B b vl vh s) (n : Nat) : RJ (w.drewN n) B b vl vh s := h.below (below_drewN (Below.refl _ _) n)
set_option maxRecDepth 100000 in
set_option maxHeartbeats 1000000 in
theorem rstep_nil_gone (h : RJ w B b vl vh s) (hk : Ok s) (hL : runP s = []) (hgo : goneP s (runP s).length = true) :
    Calls Try.prog 36 #[.pointer (some ⟨b, 0, none⟩)] w fun e w' => StepE w w' B b vl vh s e := by
  have hst := step_rest (p := ⟨false, false, []⟩) (r := []) (Or.inl hL)
  rw [if_pos hgo] at hst
  have hmr := runP_few hk.next hk.few
  have hfw := hk.few
  have hR := rgN_two s.short
  have hRp := rgN_pos s.short
  have hnx := hk.next
  have hlst := hk.lst
  have hlk := hk.links.2
  have hfd := Lib.hid (rfind_nil h hk hL)
  obtain ⟨a4, q4, rfl⟩ := h.slice
  have hrf := fun W (hW : RJ W B b vl (.slice a4 s.held.length q4) s) k (hkm : k ≤ (runP s).length) => rfind_run hW hk hkm
  unfold goneP at hgo
  generalize (runP s).length = m at *
  have hps := fun W (hW : RJ W B b vl (.slice a4 s.held.length q4) s) => rpass_to hW hk (m := m + 1) (by omega)
  have hon2 := fun W (hW : RJ W B b vl (.slice a4 s.held.length q4) s) => ron_any s.next (m + 1) hW hk.next (by omega)
  generalize (s.next + (m + 1)) % rgN s.short = q2 at hps hon2
  obtain ⟨hwl1, hwl2⟩ := wrap_more (s.lost : Int)
  have hsl := fun W vx (hW : RJ W B b vl vx (passP s (m + 1))) => And.intro hW.c5 hW.setLost
  simp only [show (passP s (m + 1)).lost = s.lost from rfl, Int.natCast_add, Int.cast_ofNat_Int] at hsl
  generalize hKe : m + 1 = K at hps hst hsl hon2
  have hwk : (m : Int) + 1 = (K : Int) := by omega
  replace hKe := Lib.hid hKe
  generalize wrap64 ((s.lost : Int) + 1) = Y at hwl1 hwl2 hsl
  generalize wrap64 (s.lost : Int) = X at hwl1 hwl2 hsl
  replace hsl := Lib.hid hsl
  replace hps := Lib.hid hps
  replace hon2 := Lib.hid hon2
  replace hst := Lib.hid hst
  have g2 := h.c2
  have g4 := h.c4
  replace hgo := Lib.hid hgo
  have hmI : (m : Int) ≤ 100 := by omega
  clear hL hk
  go_enter Try.func36, Try.ntmps36
  go_wp2_with (go_at_call 35; refine hfd.out.mono ?_; rintro e w' ⟨rfl, rfl⟩)
  go_loopw [8] (fun v8 wr => ∃ k : Nat, k ≤ m ∧ v8 = .int .i64 k ∧ Below w.heap.size w wr) (fun v8 _ => m - (intOf v8).toNat)
  case atStart => exact ⟨0, Nat.zero_le _, rfl, Below.refl _ _⟩
  case round =>
    obtain ⟨k, hkm, rfl, hb⟩ := hrel
    have hr := h.below hb
    have gr2 := hr.c2
    have gr4 := hr.c4
    obtain ⟨i, hi, hfk⟩ := hrf _ hr k hkm
    have hon := Lib.hid (ron_any s.next k hr hnx (by omega))
    generalize hq : (s.next + k) % rgN s.short = q at hon hfk
    have hqR : q < rgN s.short := by rw [← hq]; exact Nat.mod_lt _ hRp
    replace hfk := Lib.hid hfk
    rcases hi with ⟨hlt, hi0⟩ | ⟨hke, rfl⟩
    · have hms : m - (intOf (.int .i64 ((k : Int) + 1))).toNat < m - (intOf (.int .i64 (k : Int))).toNat := by simp [intOf]; omega
      replace hms := Lib.hid hms
      have hkI2 : (k : Int) ≤ 100 := by omega
      replace hlt := Lib.hid hlt
      replace hq := Lib.hid hq
      clear hrf hqR hkm
      go_wp2_with (first | (go_at_call 44; refine hon.out.mono ?_; rintro e w' ⟨rfl, rfl⟩) | (go_at_call 35; refine hfk.out.mono ?_; rintro e w' ⟨rfl, rfl⟩))
      go_roundw
      case rel => exact ⟨k + 1, hlt.out, rfl, hb⟩
      case measure => exact hms.out
    · subst hke
      have hgc := rgone_any q hr hqR (by omega) hlst
      rw [show s.last.all (pastP (rgN s.short) q) = true from hq ▸ hgo.out] at hgc
      replace hgc := Lib.hid hgc
      replace hq := Lib.hid hq
      clear hrf hqR hkm hlst
      go_wp2_with (first | (go_at_call 44; (with_reducible show Calls _ _ #[_, _, .int .i64 (k : Nat)] _ _); refine hon.out.mono ?_; rintro e w' ⟨rfl, rfl⟩) | (go_at_call 35; refine hfk.out.mono ?_; rintro e w' ⟨rfl, rfl⟩) | (go_at_call 46; refine hgc.out.mono ?_; rintro e w' ⟨rfl, rfl⟩) | (go_at_call 44; (with_reducible show Calls _ _ #[_, _, .int .i64 (K : Nat)] _ _); refine (hon2.out _ hr).mono ?_; rintro e w' ⟨rfl, rfl⟩) | (go_at_call 43; refine (hps.out _ hr).mono ?_; rintro e w7 ⟨rfl, vh7, hJ7, hn7, hb7⟩; obtain ⟨g5, hJ8, hb8⟩ := hsl.out _ _ hJ7; have f5 := hJ7.blk.free 5 none))
      go_ret2
      exact StepE.yes hst.out rfl (Or.inl ⟨rfl, rfl⟩) hJ8 (fun k hk => Nat.le_trans hb.size (hn7 k hk)) (((ButOf.of_below hb).trans hb7).trans hb8)
set_option maxRecDepth 100000 in
set_option maxHeartbeats 1000000 in
theorem rstep_nil_few (h : RJ w B b vl vh s) (hk : Ok s) (hL : runP s = []) (hgo : goneP s (runP s).length = false) (h64 : ¬ 64 < s.held.length) :
    Calls Try.prog 36 #[.pointer (some ⟨b, 0, none⟩)] w fun e w' => StepE w w' B b vl vh s e := by
  have hst := step_rest (p := ⟨false, false, []⟩) (r := []) (Or.inl hL)
  rw [if_neg (by rw [hgo]; decide), if_neg h64] at hst
  have hmr := runP_few hk.next hk.few
  have hfw := hk.few
  have hR := rgN_two s.short
  have hRp := rgN_pos s.short
  have hnx := hk.next
  have hlst := hk.lst
  have hlk := hk.links.2
  have hfd := Lib.hid (rfind_nil h hk hL)
  obtain ⟨a4, q4, rfl⟩ := h.slice
  have hrf := fun W (hW : RJ W B b vl (.slice a4 s.held.length q4) s) k (hkm : k ≤ (runP s).length) => rfind_run hW hk hkm
  unfold goneP at hgo
  generalize (runP s).length = m at *
  have h64I : ¬ ((64 : Int) < (s.held.length : Int)) := by omega
  replace hst := Lib.hid hst
  have g2 := h.c2
  have g4 := h.c4
  replace hgo := Lib.hid hgo
  have hmI : (m : Int) ≤ 100 := by omega
  clear hL hk
  go_enter Try.func36, Try.ntmps36
  go_wp2_with (go_at_call 35; refine hfd.out.mono ?_; rintro e w' ⟨rfl, rfl⟩)
  go_loopw [8] (fun v8 wr => ∃ k : Nat, k ≤ m ∧ v8 = .int .i64 k ∧ Below w.heap.size w wr) (fun v8 _ => m - (intOf v8).toNat)
  case atStart => exact ⟨0, Nat.zero_le _, rfl, Below.refl _ _⟩
  case round =>
    obtain ⟨k, hkm, rfl, hb⟩ := hrel
    have hr := h.below hb
    have gr2 := hr.c2
    have gr4 := hr.c4
    obtain ⟨i, hi, hfk⟩ := hrf _ hr k hkm
    have hon := Lib.hid (ron_any s.next k hr hnx (by omega))
    generalize hq : (s.next + k) % rgN s.short = q at hon hfk
    have hqR : q < rgN s.short := by rw [← hq]; exact Nat.mod_lt _ hRp
    replace hfk := Lib.hid hfk
    rcases hi with ⟨hlt, hi0⟩ | ⟨hke, rfl⟩
    · have hms : m - (intOf (.int .i64 ((k : Int) + 1))).toNat < m - (intOf (.int .i64 (k : Int))).toNat := by simp [intOf]; omega
      replace hms := Lib.hid hms
      have hkI2 : (k : Int) ≤ 100 := by omega
      replace hlt := Lib.hid hlt
      replace hq := Lib.hid hq
      clear hrf hqR hkm
      go_wp2_with (first | (go_at_call 44; refine hon.out.mono ?_; rintro e w' ⟨rfl, rfl⟩) | (go_at_call 35; refine hfk.out.mono ?_; rintro e w' ⟨rfl, rfl⟩))
      go_roundw
      case rel => exact ⟨k + 1, hlt.out, rfl, hb⟩
      case measure => exact hms.out
    · subst hke
      have hgc := rgone_any q hr hqR (by omega) hlst
      rw [show s.last.all (pastP (rgN s.short) q) = false from hq ▸ hgo.out] at hgc
      replace hgc := Lib.hid hgc
      replace hq := Lib.hid hq
      clear hrf hqR hkm hlst
      go_wp2_with (first | (go_at_call 44; (with_reducible show Calls _ _ #[_, _, .int .i64 (k : Nat)] _ _); refine hon.out.mono ?_; rintro e w' ⟨rfl, rfl⟩) | (go_at_call 35; refine hfk.out.mono ?_; rintro e w' ⟨rfl, rfl⟩) | (go_at_call 46; refine hgc.out.mono ?_; rintro e w' ⟨rfl, rfl⟩))
      go_ret2
      exact StepE.no hst.out rfl (h.below hb) (ButOf.of_below hb)
set_option maxRecDepth 100000 in
set_option maxHeartbeats 1000000 in
theorem rstep_nil_many (h : RJ w B b vl vh s) (hk : Ok s) (hL : runP s = []) (hgo : goneP s (runP s).length = false) (h64 : 64 < s.held.length) :
    Calls Try.prog 36 #[.pointer (some ⟨b, 0, none⟩)] w fun e w' => StepE w w' B b vl vh s e := by
  have hst := step_rest (p := ⟨false, false, []⟩) (r := []) (Or.inl hL)
  rw [if_neg (by rw [hgo]; decide), if_pos h64] at hst
  have hmr := runP_few hk.next hk.few
  have hfw := hk.few
  have hR := rgN_two s.short
  have hRp := rgN_pos s.short
  have hnx := hk.next
  have hlst := hk.lst
  have hlk := hk.links.2
  have hfd := Lib.hid (rfind_nil h hk hL)
  obtain ⟨a4, q4, rfl⟩ := h.slice
  have hrf := fun W (hW : RJ W B b vl (.slice a4 s.held.length q4) s) k (hkm : k ≤ (runP s).length) => rfind_run hW hk hkm
  unfold goneP at hgo
  generalize (runP s).length = m at *
  have hlb := leastP_ge s
  have hah := fun W (hW : RJ W B b vl (.slice a4 s.held.length q4) s) n (hn : n < rgN s.short) => rahead_any n s.next hW hn hnx
  have hahd := hk.ahead
  have hnum := hk.num
  have h64I : (64 : Int) < (s.held.length : Int) := by omega
  have hfwI : (s.held.length : Int) ≤ 100 := by omega
  have g2 := h.c2
  have g4 := h.c4
  replace hgo := Lib.hid hgo
  have hmI : (m : Int) ≤ 100 := by omega
  clear hL
  go_enter Try.func36, Try.ntmps36
  go_wp2_with (go_at_call 35; refine hfd.out.mono ?_; rintro e w' ⟨rfl, rfl⟩)
  go_loopw [8] (fun v8 wr => ∃ k : Nat, k ≤ m ∧ v8 = .int .i64 k ∧ Below w.heap.size w wr) (fun v8 _ => m - (intOf v8).toNat)
  case atStart => exact ⟨0, Nat.zero_le _, rfl, Below.refl _ _⟩
  case round =>
    obtain ⟨k, hkm, rfl, hb⟩ := hrel
    have hr := h.below hb
    have gr2 := hr.c2
    have gr4 := hr.c4
    obtain ⟨i, hi, hfk⟩ := hrf _ hr k hkm
    have hon := Lib.hid (ron_any s.next k hr hnx (by omega))
    generalize hq : (s.next + k) % rgN s.short = q at hon hfk
    have hqR : q < rgN s.short := by rw [← hq]; exact Nat.mod_lt _ hRp
    replace hfk := Lib.hid hfk
    rcases hi with ⟨hlt, hi0⟩ | ⟨hke, rfl⟩
    · have hms : m - (intOf (.int .i64 ((k : Int) + 1))).toNat < m - (intOf (.int .i64 (k : Int))).toNat := by simp [intOf]; omega
      replace hms := Lib.hid hms
      have hkI2 : (k : Int) ≤ 100 := by omega
      replace hlt := Lib.hid hlt
      replace hq := Lib.hid hq
      clear hrf hqR hkm
      go_wp2_with (first | (go_at_call 44; refine hon.out.mono ?_; rintro e w' ⟨rfl, rfl⟩) | (go_at_call 35; refine hfk.out.mono ?_; rintro e w' ⟨rfl, rfl⟩))
      go_roundw
      case rel => exact ⟨k + 1, hlt.out, rfl, hb⟩
      case measure => exact hms.out
    · subst hke
      have hgc := rgone_any q hr hqR (by omega) hlst
      rw [show s.last.all (pastP (rgN s.short) q) = false from hq ▸ hgo.out] at hgc
      replace hgc := Lib.hid hgc
      replace hq := Lib.hid hq
      clear hrf hqR hkm hlst
      go_wp2_with (first | (go_at_call 44; (with_reducible show Calls _ _ #[_, _, .int .i64 (k : Nat)] _ _); refine hon.out.mono ?_; rintro e w' ⟨rfl, rfl⟩) | (go_at_call 35; refine hfk.out.mono ?_; rintro e w' ⟨rfl, rfl⟩) | (go_at_call 46; refine hgc.out.mono ?_; rintro e w' ⟨rfl, rfl⟩))
      go_loopw [9, 10] (fun v9 v10 wx => ∃ (j : Nat) (A : Int), j ≤ s.held.length ∧ v10 = .int .i64 j ∧ v9 = .int .i64 A ∧ Hid (LeastR s j A) ∧ Below w.heap.size w wx) (fun _ v10 _ => s.held.length - (intOf v10).toNat)
      case atStart => exact ⟨0, -1, Nat.zero_le _, rfl, rfl, Lib.hid (Or.inl ⟨rfl, rfl⟩), hb⟩
      case round =>
        obtain ⟨j, A, hjm, rfl, rfl, hlr, hbx⟩ := hrel
        have hx := h.below hbx
        have gx2 := hx.c2
        have gx4 := hx.c4
        by_cases hlt : j < s.held.length
        · have hltI : (j : Int) < (s.held.length : Int) := by omega
          have hjI : (j : Int) ≤ 100 := by omega
          obtain ⟨⟨n, pc⟩, hq⟩ : ∃ q, s.held[j]? = some q := ⟨_, List.getElem?_eq_getElem hlt⟩
          obtain ⟨g, c, x, ex, hg, c0, _, _, _, _⟩ := hx.at_ hq
          cases ex
          have hmem : (n, pc) ∈ s.held := List.mem_iff_getElem?.2 ⟨j, hq⟩
          have hA0 := hahd _ hmem
          have hnm := hnum _ hmem
          have hnext := hlr.out.next hq hA0
          have hac := fun m => (hah _ (hx.drewN m) n hnm).mono (fun e w1 he => And.intro he.1 he.2.symm)
          have hms : s.held.length - (intOf (.int .i64 ((j : Int) + 1))).toNat < s.held.length - (intOf (.int .i64 (j : Int))).toNat := by simp [intOf]; omega
          replace hms := Lib.hid hms
          have hj1 : j + 1 ≤ s.held.length := by omega
          replace hj1 := Lib.hid hj1
          generalize aheadI (rgN s.short) s.next n = D at hac hA0 hnext
          replace hac := Lib.hid hac
          clear hah hahd hnum hmem hnm hq hlr hst hlb hk hfk hgc hon
          by_cases hAn : A < 0
          · rw [if_pos (Or.inl hAn)] at hnext
            replace hnext := Lib.hid hnext
            go_wp2_with fail
            go_quiet ((go_at_call 34; exact Calls.quiet_of_same (hac.out _)))
            go_wp2_with fail
            go_roundw
            case rel => exact ⟨j + 1, D, hj1.out, rfl, rfl, hnext, below_drewN hbx _⟩
            case measure => exact hms.out
          · have hAp : 0 ≤ A := by omega
            have hAd : decide (A < 0) = false := decide_eq_false hAn
            by_cases hDA : D < A
            · rw [if_pos (Or.inr hDA)] at hnext
              replace hnext := Lib.hid hnext
              clear hAn
              go_wp2_with fail
              go_quiet ((go_at_call 34; exact Calls.quiet_of_same (hac.out _)))
              go_wp2_with fail
              go_roundw
              case rel => exact ⟨j + 1, D, hj1.out, rfl, rfl, hnext, below_drewN hbx _⟩
              case measure => exact hms.out
            · rw [if_neg (by omega)] at hnext
              replace hnext := Lib.hid hnext
              have hDd : decide (D < A) = false := decide_eq_false hDA
              clear hAn hDA
              go_wp2_with fail
              go_quiet ((go_at_call 34; exact Calls.quiet_of_same (hac.out _)))
              go_wp2_with fail
              go_roundw
              case rel => exact ⟨j + 1, A, hj1.out, rfl, rfl, hnext, below_drewN hbx _⟩
              case measure => exact hms.out
        · have hje : j = s.held.length := by omega
          have hltI : (s.held.length : Int) ≤ (j : Int) := by omega
          obtain ⟨hAe, hA0⟩ := (hje ▸ hlr.out : LeastR s s.held.length A).end_ (by omega)
          rw [← hAe] at hst hlb
          obtain ⟨K, hK⟩ := Int.eq_ofNat_of_zero_le (show 0 ≤ A + 1 by omega)
          rw [hK, Int.toNat_natCast] at hst
          have hpl : passP s K = passP s K := rfl
          have hKR : K ≤ rgN s.short / 2 := by
            rcases hlr.out with ⟨e, _⟩ | ⟨_, _, _, _, y, hy1, hy2⟩
            · omega
            · have h1 := hahd y (List.mem_of_mem_take hy1)
              have h2 := aheadI_of_nonneg h1
              rw [aheadI_nonneg] at h1
              omega
          have hps := fun W (hW : RJ W B b vl (.slice a4 s.held.length q4) s) => rpass_any ((s.next + K) % rgN s.short) hW (Nat.mod_lt _ hRp) (by omega) hnum
          simp only [rpass_eq hk hKR] at hps
          have hon2 := fun W (hW : RJ W B b vl (.slice a4 s.held.length q4) s) => ron_any s.next K hW hnx (by omega)
          generalize (s.next + K) % rgN s.short = q2 at hps hon2
          have hAb : A ≤ 16777216 := by omega
          replace hps := Lib.hid hps
          replace hon2 := Lib.hid hon2
          replace hst := Lib.hid hst
          replace hAe := Lib.hid hAe
          replace hje := Lib.hid hje
          clear hah hahd hnum hlr hlb hk hfk hgc hon hlt
          go_wp2_with (first | (go_at_call 44; (with_reducible show Calls _ _ #[_, _, .int .i64 (K : Nat)] _ _); refine (hon2.out _ hx).mono ?_; rintro e w' ⟨rfl, rfl⟩) | (go_at_call 43; refine (hps.out _ hx).mono ?_; rintro e w7 ⟨rfl, vh7, hJ7, hn7, hb7⟩))
          go_ret2
          exact StepE.yes hst.out rfl (Or.inl ⟨rfl, rfl⟩) hJ7 (fun k hk => Nat.le_trans hbx.size (hn7 k hk)) ((ButOf.of_below hbx).trans hb7)
set_option maxRecDepth 100000 in
set_option maxHeartbeats 1000000 in
theorem rstep_none_gone (h : RJ w B b vl vh s) (hk : Ok s) (hL : runP s = p :: r) (hf : p.first = true) (hX : rrunF 0 0 [] (p :: r) = none) (hgo : goneP s (runP s).length = true) :
    Calls Try.prog 36 #[.pointer (some ⟨b, 0, none⟩)] w fun e w' => StepE w w' B b vl vh s e := by
  have hst := step_rest (Or.inr ⟨hL, hf, hX⟩)
  rw [if_pos hgo] at hst
  have hmr := runP_few hk.next hk.few
  have hfw := hk.few
  have hR := rgN_two s.short
  have hRp := rgN_pos s.short
  have hnx := hk.next
  have hlst := hk.lst
  have hlk := hk.links.2
  obtain ⟨k0, g0, cc, z, hkl, rfl, hgl, c1, hz, hfd⟩ := rfind_next h hk hL
  rw [hf] at c1
  replace hfd := Lib.hid hfd
  have hrun := Lib.hid (rrun_none h hk (by rw [hL]; exact hX))
  have hrf := fun W (hW : RJ W B b vl (.slice (some ⟨g0, 0, none⟩) s.held.length cc) s) k (hkm : k ≤ (runP s).length) => rfind_run hW hk hkm
  unfold goneP at hgo
  generalize (runP s).length = m at *
  have hps := fun W (hW : RJ W B b vl (.slice (some ⟨g0, 0, none⟩) s.held.length cc) s) => rpass_to hW hk (m := m + 1) (by omega)
  have hon2 := fun W (hW : RJ W B b vl (.slice (some ⟨g0, 0, none⟩) s.held.length cc) s) => ron_any s.next (m + 1) hW hk.next (by omega)
  generalize (s.next + (m + 1)) % rgN s.short = q2 at hps hon2
  obtain ⟨hwl1, hwl2⟩ := wrap_more (s.lost : Int)
  have hsl := fun W vx (hW : RJ W B b vl vx (passP s (m + 1))) => And.intro hW.c5 hW.setLost
  simp only [show (passP s (m + 1)).lost = s.lost from rfl, Int.natCast_add, Int.cast_ofNat_Int] at hsl
  generalize hKe : m + 1 = K at hps hst hsl hon2
  have hwk : (m : Int) + 1 = (K : Int) := by omega
  replace hKe := Lib.hid hKe
  generalize wrap64 ((s.lost : Int) + 1) = Y at hwl1 hwl2 hsl
  generalize wrap64 (s.lost : Int) = X at hwl1 hwl2 hsl
  replace hsl := Lib.hid hsl
  replace hps := Lib.hid hps
  replace hon2 := Lib.hid hon2
  replace hst := Lib.hid hst
  have g2 := h.c2
  have g4 := h.c4
  replace hgo := Lib.hid hgo
  have hmI : (m : Int) ≤ 100 := by omega
  have hkI : (k0 : Int) < (s.held.length : Int) := by omega
  clear hL hf hz hX hk
  go_enter Try.func36, Try.ntmps36
  go_wp2_with (first | (go_at_call 35; refine hfd.out.mono ?_; rintro e w' ⟨rfl, rfl⟩) | (go_at_call 45; refine hrun.out.mono ?_; rintro e w1 ⟨rfl, hb1⟩; have h1 := h.below hb1))
  go_loopw [8] (fun v8 wr => ∃ k : Nat, k ≤ m ∧ v8 = .int .i64 k ∧ Below w.heap.size w wr) (fun v8 _ => m - (intOf v8).toNat)
  case atStart => exact ⟨0, Nat.zero_le _, rfl, hb1⟩
  case round =>
    obtain ⟨k, hkm, rfl, hb⟩ := hrel
    have hr := h.below hb
    have gr2 := hr.c2
    have gr4 := hr.c4
    obtain ⟨i, hi, hfk⟩ := hrf _ hr k hkm
    have hon := Lib.hid (ron_any s.next k hr hnx (by omega))
    generalize hq : (s.next + k) % rgN s.short = q at hon hfk
    have hqR : q < rgN s.short := by rw [← hq]; exact Nat.mod_lt _ hRp
    replace hfk := Lib.hid hfk
    rcases hi with ⟨hlt, hi0⟩ | ⟨hke, rfl⟩
    · have hms : m - (intOf (.int .i64 ((k : Int) + 1))).toNat < m - (intOf (.int .i64 (k : Int))).toNat := by simp [intOf]; omega
      replace hms := Lib.hid hms
      have hkI2 : (k : Int) ≤ 100 := by omega
      replace hlt := Lib.hid hlt
      replace hq := Lib.hid hq
      clear hrf hqR hkm
      go_wp2_with (first | (go_at_call 44; refine hon.out.mono ?_; rintro e w' ⟨rfl, rfl⟩) | (go_at_call 35; refine hfk.out.mono ?_; rintro e w' ⟨rfl, rfl⟩))
      go_roundw
      case rel => exact ⟨k + 1, hlt.out, rfl, hb⟩
      case measure => exact hms.out
    · subst hke
      have hgc := rgone_any q hr hqR (by omega) hlst
      rw [show s.last.all (pastP (rgN s.short) q) = true from hq ▸ hgo.out] at hgc
      replace hgc := Lib.hid hgc
      replace hq := Lib.hid hq
      clear hrf hqR hkm hlst
      go_wp2_with (first | (go_at_call 44; (with_reducible show Calls _ _ #[_, _, .int .i64 (k : Nat)] _ _); refine hon.out.mono ?_; rintro e w' ⟨rfl, rfl⟩) | (go_at_call 35; refine hfk.out.mono ?_; rintro e w' ⟨rfl, rfl⟩) | (go_at_call 46; refine hgc.out.mono ?_; rintro e w' ⟨rfl, rfl⟩) | (go_at_call 44; (with_reducible show Calls _ _ #[_, _, .int .i64 (K : Nat)] _ _); refine (hon2.out _ hr).mono ?_; rintro e w' ⟨rfl, rfl⟩) | (go_at_call 43; refine (hps.out _ hr).mono ?_; rintro e w7 ⟨rfl, vh7, hJ7, hn7, hb7⟩; obtain ⟨g5, hJ8, hb8⟩ := hsl.out _ _ hJ7; have f5 := hJ7.blk.free 5 none))
      go_ret2
      exact StepE.yes hst.out rfl (Or.inl ⟨rfl, rfl⟩) hJ8 (fun k hk => Nat.le_trans hb.size (hn7 k hk)) (((ButOf.of_below hb).trans hb7).trans hb8)
set_option maxRecDepth 100000 in
set_option maxHeartbeats 1000000 in
theorem rstep_none_few (h : RJ w B b vl vh s) (hk : Ok s) (hL : runP s = p :: r) (hf : p.first = true) (hX : rrunF 0 0 [] (p :: r) = none) (hgo : goneP s (runP s).length = false) (h64 : ¬ 64 < s.held.length) :
    Calls Try.prog 36 #[.pointer (some ⟨b, 0, none⟩)] w fun e w' => StepE w w' B b vl vh s e := by
  have hst := step_rest (Or.inr ⟨hL, hf, hX⟩)
  rw [if_neg (by rw [hgo]; decide), if_neg h64] at hst
  have hmr := runP_few hk.next hk.few
  have hfw := hk.few
  have hR := rgN_two s.short
  have hRp := rgN_pos s.short
  have hnx := hk.next
  have hlst := hk.lst
  have hlk := hk.links.2
  obtain ⟨k0, g0, cc, z, hkl, rfl, hgl, c1, hz, hfd⟩ := rfind_next h hk hL
  rw [hf] at c1
  replace hfd := Lib.hid hfd
  have hrun := Lib.hid (rrun_none h hk (by rw [hL]; exact hX))
  have hrf := fun W (hW : RJ W B b vl (.slice (some ⟨g0, 0, none⟩) s.held.length cc) s) k (hkm : k ≤ (runP s).length) => rfind_run hW hk hkm
  unfold goneP at hgo
  generalize (runP s).length = m at *
  have h64I : ¬ ((64 : Int) < (s.held.length : Int)) := by omega
  replace hst := Lib.hid hst
  have g2 := h.c2
  have g4 := h.c4
  replace hgo := Lib.hid hgo
  have hmI : (m : Int) ≤ 100 := by omega
  have hkI : (k0 : Int) < (s.held.length : Int) := by omega
  clear hL hf hz hX hk
  go_enter Try.func36, Try.ntmps36
  go_wp2_with (first | (go_at_call 35; refine hfd.out.mono ?_; rintro e w' ⟨rfl, rfl⟩) | (go_at_call 45; refine hrun.out.mono ?_; rintro e w1 ⟨rfl, hb1⟩; have h1 := h.below hb1))
  go_loopw [8] (fun v8 wr => ∃ k : Nat, k ≤ m ∧ v8 = .int .i64 k ∧ Below w.heap.size w wr) (fun v8 _ => m - (intOf v8).toNat)
  case atStart => exact ⟨0, Nat.zero_le _, rfl, hb1⟩
  case round =>
    obtain ⟨k, hkm, rfl, hb⟩ := hrel
    have hr := h.below hb
    have gr2 := hr.c2
    have gr4 := hr.c4
    obtain ⟨i, hi, hfk⟩ := hrf _ hr k hkm
    have hon := Lib.hid (ron_any s.next k hr hnx (by omega))
    generalize hq : (s.next + k) % rgN s.short = q at hon hfk
    have hqR : q < rgN s.short := by rw [← hq]; exact Nat.mod_lt _ hRp
    replace hfk := Lib.hid hfk
    rcases hi with ⟨hlt, hi0⟩ | ⟨hke, rfl⟩
    · have hms : m - (intOf (.int .i64 ((k : Int) + 1))).toNat < m - (intOf (.int .i64 (k : Int))).toNat := by simp [intOf]; omega
      replace hms := Lib.hid hms
      have hkI2 : (k : Int) ≤ 100 := by omega
      replace hlt := Lib.hid hlt
      replace hq := Lib.hid hq
      clear hrf hqR hkm
      go_wp2_with (first | (go_at_call 44; refine hon.out.mono ?_; rintro e w' ⟨rfl, rfl⟩) | (go_at_call 35; refine hfk.out.mono ?_; rintro e w' ⟨rfl, rfl⟩))
      go_roundw
      case rel => exact ⟨k + 1, hlt.out, rfl, hb⟩
      case measure => exact hms.out
    · subst hke
      have hgc := rgone_any q hr hqR (by omega) hlst
      rw [show s.last.all (pastP (rgN s.short) q) = false from hq ▸ hgo.out] at hgc
      replace hgc := Lib.hid hgc
      replace hq := Lib.hid hq
      clear hrf hqR hkm hlst
      go_wp2_with (first | (go_at_call 44; (with_reducible show Calls _ _ #[_, _, .int .i64 (k : Nat)] _ _); refine hon.out.mono ?_; rintro e w' ⟨rfl, rfl⟩) | (go_at_call 35; refine hfk.out.mono ?_; rintro e w' ⟨rfl, rfl⟩) | (go_at_call 46; refine hgc.out.mono ?_; rintro e w' ⟨rfl, rfl⟩))
      go_ret2
      exact StepE.no hst.out rfl (h.below hb) (ButOf.of_below hb)
set_option maxRecDepth 100000 in
set_option maxHeartbeats 1000000 in
theorem rstep_none_many (h : RJ w B b vl vh s) (hk : Ok s) (hL : runP s = p :: r) (hf : p.first = true) (hX : rrunF 0 0 [] (p :: r) = none) (hgo : goneP s (runP s).length = false) (h64 : 64 < s.held.length) :
    Calls Try.prog 36 #[.pointer (some ⟨b, 0, none⟩)] w fun e w' => StepE w w' B b vl vh s e := by
  have hst := step_rest (Or.inr ⟨hL, hf, hX⟩)
  rw [if_neg (by rw [hgo]; decide), if_pos h64] at hst
  have hmr := runP_few hk.next hk.few
  have hfw := hk.few
  have hR := rgN_two s.short
  have hRp := rgN_pos s.short
  have hnx := hk.next
  have hlst := hk.lst
  have hlk := hk.links.2
  obtain ⟨k0, g0, cc, z, hkl, rfl, hgl, c1, hz, hfd⟩ := rfind_next h hk hL
  rw [hf] at c1
  replace hfd := Lib.hid hfd
  have hrun := Lib.hid (rrun_none h hk (by rw [hL]; exact hX))
  have hrf := fun W (hW : RJ W B b vl (.slice (some ⟨g0, 0, none⟩) s.held.length cc) s) k (hkm : k ≤ (runP s).length) => rfind_run hW hk hkm
  unfold goneP at hgo
  generalize (runP s).length = m at *
  have hlb := leastP_ge s
  have hah := fun W (hW : RJ W B b vl (.slice (some ⟨g0, 0, none⟩) s.held.length cc) s) n (hn : n < rgN s.short) => rahead_any n s.next hW hn hnx
  have hahd := hk.ahead
  have hnum := hk.num
  have h64I : (64 : Int) < (s.held.length : Int) := by omega
  have hfwI : (s.held.length : Int) ≤ 100 := by omega
  have g2 := h.c2
  have g4 := h.c4
  replace hgo := Lib.hid hgo
  have hmI : (m : Int) ≤ 100 := by omega
  have hkI : (k0 : Int) < (s.held.length : Int) := by omega
  clear hL hf hz hX
  go_enter Try.func36, Try.ntmps36
  go_wp2_with (first | (go_at_call 35; refine hfd.out.mono ?_; rintro e w' ⟨rfl, rfl⟩) | (go_at_call 45; refine hrun.out.mono ?_; rintro e w1 ⟨rfl, hb1⟩; have h1 := h.below hb1))
  go_loopw [8] (fun v8 wr => ∃ k : Nat, k ≤ m ∧ v8 = .int .i64 k ∧ Below w.heap.size w wr) (fun v8 _ => m - (intOf v8).toNat)
  case atStart => exact ⟨0, Nat.zero_le _, rfl, hb1⟩
  case round =>
    obtain ⟨k, hkm, rfl, hb⟩ := hrel
    have hr := h.below hb
    have gr2 := hr.c2
    have gr4 := hr.c4
    obtain ⟨i, hi, hfk⟩ := hrf _ hr k hkm
    have hon := Lib.hid (ron_any s.next k hr hnx (by omega))
    generalize hq : (s.next + k) % rgN s.short = q at hon hfk
    have hqR : q < rgN s.short := by rw [← hq]; exact Nat.mod_lt _ hRp
    replace hfk := Lib.hid hfk
    rcases hi with ⟨hlt, hi0⟩ | ⟨hke, rfl⟩
    · have hms : m - (intOf (.int .i64 ((k : Int) + 1))).toNat < m - (intOf (.int .i64 (k : Int))).toNat := by simp [intOf]; omega
      replace hms := Lib.hid hms
      have hkI2 : (k : Int) ≤ 100 := by omega
      replace hlt := Lib.hid hlt
      replace hq := Lib.hid hq
      clear hrf hqR hkm
      go_wp2_with (first | (go_at_call 44; refine hon.out.mono ?_; rintro e w' ⟨rfl, rfl⟩) | (go_at_call 35; refine hfk.out.mono ?_; rintro e w' ⟨rfl, rfl⟩))
      go_roundw
      case rel => exact ⟨k + 1, hlt.out, rfl, hb⟩
      case measure => exact hms.out
    · subst hke
      have hgc := rgone_any q hr hqR (by omega) hlst
      rw [show s.last.all (pastP (rgN s.short) q) = false from hq ▸ hgo.out] at hgc
      replace hgc := Lib.hid hgc
      replace hq := Lib.hid hq
      clear hrf hqR hkm hlst
      go_wp2_with (first | (go_at_call 44; (with_reducible show Calls _ _ #[_, _, .int .i64 (k : Nat)] _ _); refine hon.out.mono ?_; rintro e w' ⟨rfl, rfl⟩) | (go_at_call 35; refine hfk.out.mono ?_; rintro e w' ⟨rfl, rfl⟩) | (go_at_call 46; refine hgc.out.mono ?_; rintro e w' ⟨rfl, rfl⟩))
      go_loopw [9, 10] (fun v9 v10 wx => ∃ (j : Nat) (A : Int), j ≤ s.held.length ∧ v10 = .int .i64 j ∧ v9 = .int .i64 A ∧ Hid (LeastR s j A) ∧ Below w.heap.size w wx) (fun _ v10 _ => s.held.length - (intOf v10).toNat)
      case atStart => exact ⟨0, -1, Nat.zero_le _, rfl, rfl, Lib.hid (Or.inl ⟨rfl, rfl⟩), hb⟩
      case round =>
        obtain ⟨j, A, hjm, rfl, rfl, hlr, hbx⟩ := hrel
        have hx := h.below hbx
        have gx2 := hx.c2
        have gx4 := hx.c4
        by_cases hlt : j < s.held.length
        · have hltI : (j : Int) < (s.held.length : Int) := by omega
          have hjI : (j : Int) ≤ 100 := by omega
          obtain ⟨⟨n, pc⟩, hq⟩ : ∃ q, s.held[j]? = some q := ⟨_, List.getElem?_eq_getElem hlt⟩
          obtain ⟨g, c, x, ex, hg, c0, _, _, _, _⟩ := hx.at_ hq
          cases ex
          have hmem : (n, pc) ∈ s.held := List.mem_iff_getElem?.2 ⟨j, hq⟩
          have hA0 := hahd _ hmem
          have hnm := hnum _ hmem
          have hnext := hlr.out.next hq hA0
          have hac := fun m => (hah _ (hx.drewN m) n hnm).mono (fun e w1 he => And.intro he.1 he.2.symm)
          have hms : s.held.length - (intOf (.int .i64 ((j : Int) + 1))).toNat < s.held.length - (intOf (.int .i64 (j : Int))).toNat := by simp [intOf]; omega
          replace hms := Lib.hid hms
          have hj1 : j + 1 ≤ s.held.length := by omega
          replace hj1 := Lib.hid hj1
          generalize aheadI (rgN s.short) s.next n = D at hac hA0 hnext
          replace hac := Lib.hid hac
          clear hah hahd hnum hmem hnm hq hlr hst hlb hk hfk hgc hon
          by_cases hAn : A < 0
          · rw [if_pos (Or.inl hAn)] at hnext
            replace hnext := Lib.hid hnext
            go_wp2_with fail
            go_quiet ((go_at_call 34; exact Calls.quiet_of_same (hac.out _)))
            go_wp2_with fail
            go_roundw
            case rel => exact ⟨j + 1, D, hj1.out, rfl, rfl, hnext, below_drewN hbx _⟩
            case measure => exact hms.out
          · have hAp : 0 ≤ A := by omega
            have hAd : decide (A < 0) = false := decide_eq_false hAn
            by_cases hDA : D < A
            · rw [if_pos (Or.inr hDA)] at hnext
              replace hnext := Lib.hid hnext
              clear hAn
              go_wp2_with fail
              go_quiet ((go_at_call 34; exact Calls.quiet_of_same (hac.out _)))
              go_wp2_with fail
              go_roundw
              case rel => exact ⟨j + 1, D, hj1.out, rfl, rfl, hnext, below_drewN hbx _⟩
              case measure => exact hms.out
            · rw [if_neg (by omega)] at hnext
              replace hnext := Lib.hid hnext
              have hDd : decide (D < A) = false := decide_eq_false hDA
              clear hAn hDA
              go_wp2_with fail
              go_quiet ((go_at_call 34; exact Calls.quiet_of_same (hac.out _)))
              go_wp2_with fail
              go_roundw
              case rel => exact ⟨j + 1, A, hj1.out, rfl, rfl, hnext, below_drewN hbx _⟩
              case measure => exact hms.out
        · have hje : j = s.held.length := by omega
          have hltI : (s.held.length : Int) ≤ (j : Int) := by omega
          obtain ⟨hAe, hA0⟩ := (hje ▸ hlr.out : LeastR s s.held.length A).end_ (by omega)
          rw [← hAe] at hst hlb
          obtain ⟨K, hK⟩ := Int.eq_ofNat_of_zero_le (show 0 ≤ A + 1 by omega)
          rw [hK, Int.toNat_natCast] at hst
          have hpl : passP s K = passP s K := rfl
          have hKR : K ≤ rgN s.short / 2 := by
            rcases hlr.out with ⟨e, _⟩ | ⟨_, _, _, _, y, hy1, hy2⟩
            · omega
            · have h1 := hahd y (List.mem_of_mem_take hy1)
              have h2 := aheadI_of_nonneg h1
              rw [aheadI_nonneg] at h1
              omega
          have hps := fun W (hW : RJ W B b vl (.slice (some ⟨g0, 0, none⟩) s.held.length cc) s) => rpass_any ((s.next + K) % rgN s.short) hW (Nat.mod_lt _ hRp) (by omega) hnum
          simp only [rpass_eq hk hKR] at hps
          have hon2 := fun W (hW : RJ W B b vl (.slice (some ⟨g0, 0, none⟩) s.held.length cc) s) => ron_any s.next K hW hnx (by omega)
          generalize (s.next + K) % rgN s.short = q2 at hps hon2
          have hAb : A ≤ 16777216 := by omega
          replace hps := Lib.hid hps
          replace hon2 := Lib.hid hon2
          replace hst := Lib.hid hst
          replace hAe := Lib.hid hAe
          replace hje := Lib.hid hje
          clear hah hahd hnum hlr hlb hk hfk hgc hon hlt
          go_wp2_with (first | (go_at_call 44; (with_reducible show Calls _ _ #[_, _, .int .i64 (K : Nat)] _ _); refine (hon2.out _ hx).mono ?_; rintro e w' ⟨rfl, rfl⟩) | (go_at_call 43; refine (hps.out _ hx).mono ?_; rintro e w7 ⟨rfl, vh7, hJ7, hn7, hb7⟩))
          go_ret2
          exact StepE.yes hst.out rfl (Or.inl ⟨rfl, rfl⟩) hJ7 (fun k hk => Nat.le_trans hbx.size (hn7 k hk)) ((ButOf.of_below hbx).trans hb7)
end
end Go.Proofs.Ytglmlhbchfgliaa
