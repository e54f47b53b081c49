/-
  The walks of the reference's Same. No conditions beyond: the slices read as bytes.
-/
import Derived.Test.YtdfoimgckahjpaaLib
namespace Go.Proofs.Ytdfoimgckahjpaa
open Go.RowKit
theorem Try.info5 : (Try.prog.info? 5).map (fun i => (i.zero, i.size, i.bytes)) = some (some (.int .u8 0), 1, 1) := by kernel_rfl

theorem take_succ_eq {l1 l2 : List UInt8} {k : Nat} (h1 : k < l1.length) (h2 : k < l2.length) (h : l1.take k = l2.take k) (he : l1.getD k 0 = l2.getD k 0) :
    l1.take (k + 1) = l2.take (k + 1) := by
  rw [List.take_succ_eq_append_getElem h1, List.take_succ_eq_append_getElem h2, h]
  simp [List.getD_eq_getElem?_getD, h1, h2] at he
  rw [he]

set_option maxHeartbeats 400000 in
theorem same_any (a1 a2 : Option Addr) (n1 n2 c1 c2 : Nat) (l1 l2 : List UInt8) (w : World) (hB1 : Bts w a1 n1 c1 l1) (hB2 : Bts w a2 n2 c2 l2) :
    Calls Try.prog 25 #[.slice a1 n1 c1, .slice a2 n2 c2] w fun e w' => e = .returned (.bool (decide (l1 = l2))) ∧ Below w.heap.size w w' := by
  have hb1 := hB1.reach
  have hb2 := hB2.reach
  have hl1 := hB1.len
  have hl2 := hB2.len
  by_cases hn : n1 = n2
  · subst hn
    have hne : (((n1 : Nat) : Int) != (n1 : Int)) = false := by simp
    go_enter Try.func25, Try.ntmps25
    go_wp2
    go_loopw [5] (fun i wr => ∃ k : Nat, k ≤ n1 ∧ i = .int .i64 k ∧ l1.take k = l2.take k ∧ Below w.heap.size w wr) (fun i _ => n1 - (intOf i).toNat)
    case atStart => exact ⟨0, by omega, rfl, rfl, Below.refl _ _⟩
    case round =>
      obtain ⟨k, hk, rfl, ht, hb⟩ := hrel
      have hk' : k ≤ l1.length := by omega
      by_cases hlt : k < n1
      · obtain ⟨b1, o1, rfl, hc1⟩ := (hB1.below hb (Nat.le_refl _)).addr (by omega)
        obtain ⟨b2, o2, rfl, hc2⟩ := (hB2.below hb (Nat.le_refl _)).addr (by omega)
        have g1 := hc1 k hlt
        have g2 := hc2 k hlt
        clear hc1 hc2
        have ht' := Lib.hid ht; clear ht
        by_cases he : l1.getD k 0 = l2.getD k 0
        · have hs := take_succ_eq (by omega) (by omega) ht'.out he
          have hs' := Lib.hid hs; clear hs
          have he' : (((l1.getD k 0).toNat : Int) != ((l2.getD k 0).toNat : Int)) = false := by rw [he]; simp
          clear he
          generalize l1.getD k 0 = x1 at *
          generalize l2.getD k 0 = x2 at *
          go_wp2
          go_quiet (fail)
          have hb' : Below w.heap.size w (wr.drewN nq) := below_drewN hb nq
          go_wp2
          go_roundw
          case rel => exact ⟨k + 1, by omega, by go_num, hs'.out, hb'⟩
          case measure => simp [intOf]; omega
        · have hne2 : decide (l1 = l2) = false := decide_eq_false (fun e => he (by rw [e]))
          have he' : (((l1.getD k 0).toNat : Int) != ((l2.getD k 0).toNat : Int)) = true := by
            simp only [bne_iff_ne, ne_eq]
            intro e; exact he (UInt8.toNat_inj.1 (by omega))
          have hne3 := Lib.hid hne2; clear hne2 he
          generalize l1.getD k 0 = x1 at *
          generalize l2.getD k 0 = x2 at *
          go_wp2
          go_quiet (fail)
          have hb' : Below w.heap.size w (wr.drewN nq) := below_drewN hb nq
          go_wp2
          go_ret
          exact ⟨ret_bool hne3.out.symm, hb'⟩
      · obtain rfl : k = n1 := by omega
        go_wp2
        go_ret
        rw [List.take_of_length_le (by omega), List.take_of_length_le (by omega)] at ht
        exact ⟨ret_bool (decide_eq_true ht).symm, hb⟩
  · have hne : (((n1 : Nat) : Int) != (n2 : Int)) = true := by simp; omega
    have hne2 : decide (l1 = l2) = false := decide_eq_false (fun e => hn (by rw [← hl1, ← hl2, e]))
    have hne3 := Lib.hid hne2; clear hne2
    go_enter Try.func25, Try.ntmps25
    go_wp2
    go_ret
    exact ⟨ret_bool hne3.out.symm, Below.refl _ _⟩
end Go.Proofs.Ytdfoimgckahjpaa
