/-
  The reference's step. No conditions.
-/
import Derived.Test.YtglmlhbchfgliaaMuRPlain
import Derived.Deep.QuietTactic
import Derived.BigQuiet
namespace Go.Proofs.Ytglmlhbchfgliaa
open Go.RowKit Go.Maps
section
variable {w : World} {B b : Nat} {vl vh : Value} {s : JS} {p : Pc} {r : List Pc}
/-- the fragment that is waited for -/
theorem rfind_next (h : RJ w B b vl vh s) (hk : Ok s) (hL : runP s = p :: r) : ∃ k g c x, k < s.held.length ∧ vh = .slice (some ⟨g, 0, none⟩) s.held.length c ∧ g < w.heap.size ∧ w.cell? ⟨g, k * 4 + 1, none⟩ = some (.bool p.first) ∧ (x : Nat) = 0 ∧
    Calls Try.prog 35 #[.pointer (some ⟨b, 0, none⟩), .int .i64 (s.next : Nat)] w fun e w' => e = .returned (.int .i64 (k : Nat)) ∧ w = w' := by
  have hg := run_at hk.next hk.few (k := 0) (Nat.zero_le _)
  rw [Nat.add_zero, Nat.mod_eq_of_lt hk.next, hL] at hg
  obtain ⟨k, hq, hne⟩ := find_ex hg
  obtain ⟨g, c, x, e, hgl, c0, c1, c2, c3, hx⟩ := h.at_ hq
  have hf := hk.few
  exact ⟨k, g, c, 0, (List.getElem?_eq_some_iff.1 hq).1, e, hgl, c1, rfl, rfind_yes h (by omega) hq hne⟩
theorem rfind_nil (h : RJ w B b vl vh s) (hk : Ok s) (hL : runP s = []) :
    Calls Try.prog 35 #[.pointer (some ⟨b, 0, none⟩), .int .i64 (s.next : Nat)] w fun e w' => e = .returned (.int .i64 (-1)) ∧ w = w' := by
  have hg := run_at hk.next hk.few (k := 0) (Nat.zero_le _)
  rw [Nat.add_zero, Nat.mod_eq_of_lt hk.next, hL] at hg
  have hf := hk.few
  exact rfind_no _ h (by omega) hg
theorem rpass_to (h : RJ w B b vl vh s) (hk : Ok s) {m : Nat} (hm : m ≤ 1000) : Calls Try.prog 43 #[.pointer (some ⟨b, 0, none⟩), .int .i64 (((s.next + m) % rgN s.short : Nat) : Int)] w fun e w' => e = .returned (.tuple #[]) ∧ ∃ vh', RJ w' B b vl vh' (passP s m) ∧ (∀ k, vh'.ownBlock = some k → w.heap.size ≤ k) ∧ ButOf (fun k => k = b) w w' := by
  have hR := rgN_even s.short
  have hp := rpass_any ((s.next + m) % rgN s.short) h (Nat.mod_lt _ (rgN_pos _)) (by have := hk.few; omega) hk.num
  rwa [rpass_eq hk (by omega)] at hp
/-- one that does not begin -/
theorem rstep_odd (h : RJ w B b vl vh s) (hk : Ok s) (hL : runP s = p :: r) (hf : p.first = false) :
    Calls Try.prog 36 #[.pointer (some ⟨b, 0, none⟩)] w fun e w' => StepE w w' B b vl vh s e := by
  have hst := Lib.hid (step_odd hL hf)
  obtain ⟨k, g, c, z, hkl, rfl, hgl, c1, hz, hfd⟩ := rfind_next h hk hL
  rw [hf] at c1
  replace hfd := Lib.hid hfd
  have hon := Lib.hid (ron_any s.next 1 h hk.next (by omega))
  have hps := Lib.hid (rpass_to h hk (m := 1) (by omega))
  generalize (s.next + 1) % rgN s.short = q at hon hps
  have g2 := h.c2
  have g4 := h.c4
  have hkI : (k : Int) < (s.held.length : Int) := by omega
  clear hL hf hz hk
  go_enter Try.func36, Try.ntmps36
  go_wp2_with (first | (go_at_call 35; refine hfd.out.mono ?_; rintro e w' ⟨rfl, rfl⟩) | (go_at_call 44; refine hon.out.mono ?_; rintro e w' ⟨rfl, rfl⟩) | (go_at_call 43; refine hps.out.mono ?_; rintro e w7 ⟨rfl, vh7, hJ7, hn7, hb7⟩))
  go_ret2
  exact StepE.yes hst.out rfl (Or.inl ⟨rfl, rfl⟩) hJ7 hn7 hb7
/-- one begins anew -/
theorem rstep_new (h : RJ w B b vl vh s) (hk : Ok s) (hL : runP s = p :: r) (hf : p.first = true) {m : Nat} (hX : rrunF 0 0 [] (p :: r) = some (m, none)) :
    Calls Try.prog 36 #[.pointer (some ⟨b, 0, none⟩)] w fun e w' => StepE w w' B b vl vh s e := by
  obtain ⟨hst, hm1, hm2⟩ := step_join hL hf hX
  replace hst := Lib.hid hst
  have hmr := runP_few hk.next hk.few
  have hfw := hk.few
  rw [hL] at hmr
  obtain ⟨k, g, c, z, hkl, rfl, hgl, c1, hz, hfd⟩ := rfind_next h hk hL
  rw [hf] at c1
  replace hfd := Lib.hid hfd
  have hrun := Lib.hid (rrun_new h hk (k := m) (by rw [hL]; exact hX))
  have hon := fun W (hW : RJ W B b vl (.slice (some ⟨g, 0, none⟩) s.held.length c) s) => ron_any s.next m hW hk.next (by omega)
  have hps := fun W (hW : RJ W B b vl (.slice (some ⟨g, 0, none⟩) s.held.length c) s) => rpass_to hW hk (m := m) (by omega)
  generalize (s.next + m) % rgN s.short = q at hon hps
  replace hon := Lib.hid hon
  replace hps := Lib.hid hps
  have g2 := h.c2
  have g4 := h.c4
  have hkI : (k : Int) < (s.held.length : Int) := by omega
  have hmI : (0 : Int) < (m : Int) := by omega
  clear hL hf hz hk hm1 hm2 hmr hfw hX
  go_enter Try.func36, Try.ntmps36
  go_wp2_with (first | (go_at_call 35; refine hfd.out.mono ?_; rintro e w' ⟨rfl, rfl⟩) | (go_at_call 45; refine hrun.out.mono ?_; rintro e w1 ⟨rfl, hb1⟩; have h1 := h.below hb1; have e2 := h1.c2) | (go_at_call 44; refine (hon.out _ h1).mono ?_; rintro e w' ⟨rfl, rfl⟩) | (go_at_call 43; refine (hps.out _ h1).mono ?_; rintro e w7 ⟨rfl, vh7, hJ7, hn7, hb7⟩))
  go_ret2
  exact StepE.yes hst.out rfl (Or.inl ⟨rfl, rfl⟩) hJ7 (fun k hk => Nat.le_trans hb1.size (hn7 k hk)) ((ButOf.of_below hb1).trans hb7)
/-- a datagram is whole -/
theorem dat_but {w1 w2 : World} {B1 b : Nat} {B' : Nat} {vl vh : Value} {s : JS} {g c : Nat} {d : List UInt8} (h : w1.ownsRow B1 5 1 (.slice (some ⟨g, 0, none⟩) d.length c) d.length (d.map bv)) (hr : RJ w1 B' b vl vh s) (hb : ButOf (fun k => k = b) w1 w2) : w2.ownsRow B1 5 1 (.slice (some ⟨g, 0, none⟩) d.length c) d.length (d.map bv) :=
  own_but h hb (fun k hk e => own_blk_ne h hr.blk (by decide) (e ▸ hk))
theorem rstep_dat (h : RJ w B b vl vh s) (hk : Ok s) (hL : runP s = p :: r) (hf : p.first = true) {m : Nat} {d : List UInt8} (hX : rrunF 0 0 [] (p :: r) = some (m, some d)) :
    Calls Try.prog 36 #[.pointer (some ⟨b, 0, none⟩)] w fun e w' => StepE w w' B b vl vh s e := by
  obtain ⟨hst, hm1, hm2⟩ := step_join hL hf hX
  replace hst : stepP s = some (passP s m, joinD (some (m, if d.length ≤ s.most then some d else none))) := hst
  have hmr := runP_few hk.next hk.few
  have hfw := hk.few
  rw [hL] at hmr
  obtain ⟨k, g, c, z, hkl, rfl, hgl, c1, hz, hfd⟩ := rfind_next h hk hL
  rw [hf] at c1
  replace hfd := Lib.hid hfd
  have hrun := Lib.hid (rrun_dat h hk (k := m) (by rw [hL]; exact hX))
  have hon := fun W (hW : RJ W B b vl (.slice (some ⟨g, 0, none⟩) s.held.length c) s) => ron_any s.next m hW hk.next (by omega)
  have hps := fun W (hW : RJ W B b vl (.slice (some ⟨g, 0, none⟩) s.held.length c) s) => rpass_to hW hk (m := m) (by omega)
  generalize (s.next + m) % rgN s.short = q at hon hps
  replace hon := Lib.hid hon
  replace hps := Lib.hid hps
  have g2 := h.c2
  have g4 := h.c4
  have hkI : (k : Int) < (s.held.length : Int) := by omega
  have hmI : (0 : Int) < (m : Int) := by omega
  clear hL hf hz hk hm1 hm2 hmr hfw hX
  by_cases hd : d.length ≤ s.most
  · rw [if_pos hd] at hst
    replace hst := Lib.hid hst
    have hdI : (d.length : Int) ≤ (s.most : Int) := by omega
    go_enter Try.func36, Try.ntmps36
    go_wp2_with (first | (go_at_call 35; refine hfd.out.mono ?_; rintro e w' ⟨rfl, rfl⟩) | (go_at_call 45; refine hrun.out.mono ?_; rintro e w1 ⟨ga, gc, rfl, ho1, hb1⟩; have h1 := h.below hb1; have e2 := h1.c2) | (go_at_call 44; refine (hon.out _ h1).mono ?_; rintro e w' ⟨rfl, rfl⟩) | (go_at_call 43; refine (hps.out _ h1).mono ?_; rintro e w7 ⟨rfl, vh7, hJ7, hn7, hb7⟩; have e1 := hJ7.c1; simp only [show (passP s m).most = s.most from rfl] at e1))
    go_ret2
    exact StepE.yes hst.out rfl (Or.inr ⟨d, ga, gc, rfl, rfl, dat_but ho1 h1 hb7⟩) hJ7 (fun k hk => Nat.le_trans hb1.size (hn7 k hk)) ((ButOf.of_below hb1).trans hb7)
  · rw [if_neg hd] at hst
    replace hst := Lib.hid hst
    have hdI : ¬ ((d.length : Int) ≤ (s.most : Int)) := by omega
    go_enter Try.func36, Try.ntmps36
    go_wp2_with (first | (go_at_call 35; refine hfd.out.mono ?_; rintro e w' ⟨rfl, rfl⟩) | (go_at_call 45; refine hrun.out.mono ?_; rintro e w1 ⟨ga, gc, rfl, ho1, hb1⟩; have h1 := h.below hb1; have e2 := h1.c2) | (go_at_call 44; refine (hon.out _ h1).mono ?_; rintro e w' ⟨rfl, rfl⟩) | (go_at_call 43; refine (hps.out _ h1).mono ?_; rintro e w7 ⟨rfl, vh7, hJ7, hn7, hb7⟩; have e1 := hJ7.c1; simp only [show (passP s m).most = s.most from rfl] at e1))
    go_ret2
    exact StepE.yes hst.out rfl (Or.inl ⟨rfl, rfl⟩) hJ7 (fun k hk => Nat.le_trans hb1.size (hn7 k hk)) ((ButOf.of_below hb1).trans hb7)
end
end Go.Proofs.Ytglmlhbchfgliaa
