/-
  Whether a fragment of a row ends a datagram. No conditions.
-/
import Derived.Test.YtglmlhbchfgliaaMuRow
namespace Go.Proofs.Ytglmlhbchfgliaa
open Go.RowKit Go.Maps
set_option maxRecDepth 100000 in
set_option maxHeartbeats 2000000 in
/-- ended, of the fragments from number i on -/
theorem ended_any {w : World} {B : Nat} {v : Value} {ps : List Pc} {g c : Nat} (i : Nat) (h : Rn w B v ps) (hv : v = .slice (some ⟨g, 0, none⟩) ps.length c) (hi : i < ps.length) (hn : ps.length ≤ 1000) :
    Calls Try.prog 47 #[.slice (some ⟨g, i * 3, none⟩) (ps.length - i) (c - i)] w fun e w' => e = .returned (.bool ((ps.drop i).any (·.last))) ∧ Below w.heap.size w w' := by
  go_enter Try.func47, Try.ntmps47
  go_wp2_with fail
  go_loopw [7] (fun vi wr => ∃ k : Nat, k ≤ ps.length - i ∧ vi = .int .i64 k ∧ Hid (((ps.drop i).take k).any (·.last) = false) ∧ Below w.heap.size w wr) (fun vi _ => (ps.length - i) - (intOf vi).toNat)
  case atStart => exact ⟨0, Nat.zero_le _, rfl, Lib.hid (by simp), Below.refl _ _⟩
  case round =>
    obtain ⟨k, hk, rfl, hal, hbr⟩ := hrel
    by_cases hlt : k < ps.length - i
    · have hltI : (k : Int) < ((ps.length - i : Nat) : Int) := by omega
      have hp : ps[i + k]? = some (ps[i + k]'(by omega)) := List.getElem?_eq_getElem (by omega)
      generalize ps[i + k]'(by omega) = p at hp
      obtain ⟨g', c', x, ev, hg, c0, c1, c2, hx⟩ := h.at_ hp
      obtain ⟨xa, xc, rfl⟩ := own_slice hx
      clear hx
      rw [hv] at ev
      cases ev
      have c0 := (hbr.cell (p := ⟨g, (i + k) * 3, none⟩) hg).trans c0
      have c1 := (hbr.cell (p := ⟨g, (i + k) * 3 + 1, none⟩) hg).trans c1
      have c2 := (hbr.cell (p := ⟨g, (i + k) * 3 + 2, none⟩) hg).trans c2
      rw [show (i + k) * 3 = i * 3 + k * 3 by omega] at c0 c1 c2
      have hany : ((ps.drop i).take (k + 1)).any (·.last) = p.last := by
        have e : (ps.drop i)[k]? = some p := by rw [List.getElem?_drop]; exact hp
        have hk2 : k < (ps.drop i).length := (List.getElem?_eq_some_iff.1 e).1
        rw [List.take_succ_eq_append_getElem hk2, List.any_append, hal.out, (List.getElem?_eq_some_iff.1 e).2]
        simp
      have hyes : p.last = true → (ps.drop i).any (·.last) = true := fun e => by
        rw [← List.take_append_drop (k + 1) (ps.drop i), List.any_append, hany, e]
        rfl
      have hms : (ps.length - i) - (intOf (.int .i64 ((k : Int) + 1))).toNat < (ps.length - i) - (intOf (.int .i64 (k : Int))).toNat := by simp [intOf]; omega
      have hk1 : k + 1 ≤ ps.length - i := by omega
      replace hms := Lib.hid hms
      replace hk1 := Lib.hid hk1
      replace hany := Lib.hid hany
      have hmI : ((ps.length - i : Nat) : Int) ≤ 1000 := by omega
      generalize ps.length - i = m at *
      have hkI : (k : Int) < 1000 := by omega
      have hb3 := fun cs => below_alloc hbr (.cells cs 75) (Nat.le_refl _)
      cases hpl : p.last
      · rw [hpl] at c1 hany
        clear hyes hpl
        go_wp2_with fail
        exact ⟨⟨k + 1, hk1.out, rfl, hany, hb3 _⟩, hms.out⟩
      · rw [hpl] at c1
        have hy := Lib.hid (hyes hpl)
        clear hyes hpl hany
        go_wp2_with fail
        go_ret
        exact ⟨ret_bool hy.out.symm, hb3 _⟩
    · have hke : k = ps.length - i := by omega
      replace hke := Lib.hid hke
      go_wp2_with fail
      go_ret
      have e := hal.out
      rw [hke.out, List.take_of_length_le (by simp)] at e
      exact ⟨ret_bool (by rw [e]), hbr⟩
end Go.Proofs.Ytglmlhbchfgliaa
