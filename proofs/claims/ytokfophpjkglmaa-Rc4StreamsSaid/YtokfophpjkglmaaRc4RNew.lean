/-
  The walks of the reference's NewRc4 and Symbol.
-/
import Derived.Test.YtokfophpjkglmaaRc4RXor
import Derived.Test.YtokfophpjkglmaaRc4New
namespace Go.Proofs.Ytokfophpjkglmaa
open Go.RowKit
def zeroR : Array Value := (refCells (rawC (List.replicate 256 0))).toArray
theorem zeroR_size : zeroR.size = 261 := by decide +kernel
theorem rsym_cells (n : Nat) : (refCells (symC n)).toArray = (zeroR.setIfInBounds 259 (.bool true)).setIfInBounds 260 (.int .i64 (n : Int)) := by kernel_rfl
set_option maxRecDepth 100000 in
set_option maxHeartbeats 400000 in
theorem rsymbol_any (n : Nat) (w : World) :
    Calls Try.prog 16 #[.int .i64 (n : Int)] w fun e w' => e = .returned (.pointer (some ⟨w.heap.size, 0, none⟩)) ∧ RC w' w.heap.size (symC n) ∧ Below w.heap.size w w' := by
  have hz : ∀ w, (zeroValue 42).run Try.prog w = .ok (.agg zeroR) w := fun w => by kernel_rfl
  have hz1 : (zeroR = #[]) = False := by
    have h := zeroR_size
    simp only [eq_iff_iff, iff_false]
    intro e
    rw [e] at h
    simp at h
  have hz2 : zeroR.size = 261 := zeroR_size
  go_enter Try.func16, Try.ntmps16
  go_wp2_with fail
  go_ret
  refine ⟨rfl, ⟨?_, symC_length n⟩, below_alloc (Below.refl _ _) _ (Nat.le_refl _)⟩
  rw [rsym_cells n]
  exact Blk.new w _ _
theorem rnew_no (a : Option Addr) (n c : Nat) (w : World) (hc : n ≤ 9223372036854775807) (h : n < 1 ∨ 256 < n) :
    Calls Try.prog 15 #[.slice a n c] w fun e w' => e = .returned (.tuple #[.pointer none, .int .i64 1]) ∧ w = w' := by
  go_enter Try.func15, Try.ntmps15
  by_cases h1 : n < 1
  · obtain rfl : n = 0 := by omega
    go_wp2_with fail
    go_ret2
    exact ⟨rfl, rfl⟩
  · have h2 : 256 < n := by omega
    go_wp2_with fail
    go_ret2
    exact ⟨rfl, rfl⟩
theorem ksa_snoc (key : List UInt8) (k : Nat) : (ksa key (k + 1)).1 = swp (ksa key k).1 k ((ksa key k).2 + ((ksa key k).1.getD k 0 + key.getD (k % key.length) 0)).toNat ∧
    (ksa key (k + 1)).2 = (ksa key k).2 + ((ksa key k).1.getD k 0 + key.getD (k % key.length) 0) := ⟨rfl, rfl⟩
set_option maxRecDepth 100000 in
set_option maxHeartbeats 4000000 in
theorem rnew_yes (a : Option Addr) (n c : Nat) (key : List UInt8) (w : World) (hB : Bts w a n c key) (h1 : 1 ≤ n) (h2 : n ≤ 256) :
    Calls Try.prog 15 #[.slice a n c] w fun e w' => e = .returned (.tuple #[.pointer (some ⟨w.heap.size, 0, none⟩), .int .i64 0]) ∧ RC w' w.heap.size (newC key) ∧ Below w.heap.size w w' := by
  have hl := hB.len
  have hz : ∀ w, (zeroValue 42).run Try.prog w = .ok (.agg zeroR) w := fun w => by kernel_rfl
  obtain ⟨b0, o0, rfl, hcl⟩ := hB.addr (by omega)
  clear hcl
  go_enter Try.func15, Try.ntmps15
  go_wp2_with fail
  have hR1 : RC (w.alloc (.cells zeroR 42)) w.heap.size (rawC (List.replicate 256 0)) := ⟨Blk.new w _ _, symC_length 0⟩
  have hb1 : Below w.heap.size w (w.alloc (.cells zeroR 42)) := below_alloc (Below.refl _ _) _ (Nat.le_refl _)
  clear hz
  generalize w.alloc (.cells zeroR 42) = w1 at *
  go_loopw [5] (fun i wr => ∃ k : Nat, k ≤ 256 ∧ i = .int .i64 k ∧ RC wr w.heap.size (rawC (((List.range k).map UInt8.ofNat) ++ List.replicate (256 - k) (0 : UInt8))) ∧ Below w.heap.size w wr) (fun i _ => 256 - (intOf i).toNat)
  case atStart => exact ⟨0, by omega, rfl, hR1, hb1⟩
  case round =>
    clear hR1 hb1
    obtain ⟨k, hk, rfl, hC, hb⟩ := hrel
    by_cases hlt : k < 256
    · have ck := hC.at k hlt
      have fk := hC.free k none
      have hC2 := hC.setS k hlt (UInt8.ofNat k)
      have e1 : ((UInt8.ofNat k).toNat : Int) = (k : Int) := by simp; omega
      rw [e1] at hC2
      simp only [rawC, fill_snoc k hlt] at hC2
      generalize (rawC (((List.range k).map UInt8.ofNat) ++ List.replicate (256 - k) (0 : UInt8))).s.getD k 0 = z0 at *
      have hb2 := hb.setCell (p := ⟨w.heap.size, k, none⟩) (Nat.le_refl _) (.int .u8 (k : Int))
      have hkm : (k : Int) % 256 = (k : Int) := by omega
      have hkI : (k : Int) < 256 := by omega
      clear e1 hC hb
      go_wp2
      go_roundw
      case rel => exact ⟨k + 1, by omega, by go_num, hC2, hb2⟩
      case measure => simp [intOf]; omega
    · obtain rfl : k = 256 := by omega
      have hC2 : RC wr w.heap.size (rawC (ksa key 0).1) := by simpa [ksa] using hC
      clear hC
      go_wp2
      go_loopw [6, 7] (fun j i wr => ∃ k : Nat, k ≤ 256 ∧ i = .int .i64 k ∧ j = .int .i64 (((ksa key k).2.toNat : Nat) : Int) ∧ RC wr w.heap.size (rawC (ksa key k).1) ∧ Below w.heap.size w wr) (fun _ i _ => 256 - (intOf i).toNat)
      case atStart => exact ⟨0, by omega, rfl, rfl, hC2, hb⟩
      case round =>
        clear hC2 hb
        obtain ⟨k, hk, rfl, rfl, hC, hb⟩ := hrel
        by_cases hlt : k < 256
        · have ck : wr.cell? ⟨w.heap.size, k, none⟩ = some (.int .u8 (((ksa key k).1.getD k 0).toNat : Int)) := hC.at k hlt
          have hmod : k % n < n := Nat.mod_lt _ (by omega)
          have g1 := hB.get hb hmod
          have ht : ((k : Nat) : Int).tmod (n : Int) = ((k % n : Nat) : Int) := by rw [Int.tmod_eq_emod_of_nonneg (by omega)]; omega
          have hmodI : ((k % n : Nat) : Int) < (n : Int) := by omega
          have hnz : ((n : Int) == 0) = false := by simp; omega
          obtain ⟨es1, es2⟩ := ksa_snoc key k
          rw [hl] at es1 es2
          have hkI : (k : Int) < 256 := by omega
          have hlen : (ksa key k).1.length = 256 := ksa_length key k
          obtain ⟨s, hs⟩ : ∃ s, (ksa key k).1 = s := ⟨_, rfl⟩
          rw [hs] at es1 es2 ck hC hlen
          generalize hp : s.getD k 0 = p at *
          generalize key.getD (k % n) 0 = q at *
          generalize k % n = m at *
          generalize (ksa key k).2 = j at *
          have bj := j.toNat_lt
          have bp := p.toNat_lt
          have bq := q.toNat_lt
          have rJ : ((j.toNat : Int) + (p.toNat : Int) + (q.toNat : Int)) % 256 = ((j + (p + q)).toNat : Int) := by rw [UInt8.toNat_add, UInt8.toNat_add]; omega
          have rT : ((j.toNat : Int) + (p.toNat : Int) + (q.toNat : Int)).tmod 256 = ((j + (p + q)).toNat : Int) := by rw [Int.tmod_eq_emod_of_nonneg (by omega)]; exact rJ
          generalize j + (p + q) = nj at *
          have hj : nj.toNat < 256 := nj.toNat_lt
          have hjI : (nj.toNat : Int) < 256 := by omega
          have es1' := Lib.hid es1; clear es1
          have es2' := Lib.hid es2; clear es2
          have hp' := Lib.hid hp; clear hp hs
          go_wp2_with fail
          go_quiet (fail)
          have hC := hC.grown (grown_drewN wr nq none) (by simp)
          have hb := below_drewN hb nq
          have ck : (wr.drewN nq).cell? ⟨w.heap.size, k, none⟩ = some (.int .u8 (p.toNat : Int)) := ck
          clear g1 ht hmodI hnz
          generalize wr.drewN nq = w2 at *
          go_upto_region 14 with fail
          have c7 : w2.cell? ⟨w.heap.size, nj.toNat, none⟩ = some (.int .u8 ((s.getD nj.toNat 0).toNat : Int)) := hC.at _ hj
          have f7 := hC.free k none
          generalize hsj : s.getD nj.toNat 0 = sj at *
          have hsj' := Lib.hid hsj; clear hsj
          go_still_tail 11, (by kernel_rfl)
          change wpList _ _ _ _ _ w2.drew
          have hC := hC.grown (grown_drew w2 none) (by simp)
          have hb := hb.drew
          have f7 : w2.drew.frozen? ⟨w.heap.size, k, none⟩ = false := f7
          have ck : w2.drew.cell? ⟨w.heap.size, k, none⟩ = some (.int .u8 (p.toNat : Int)) := ck
          clear c7
          generalize w2.drew = w3 at *
          go_upto_region 15 with fail
          have h3 := hC.setS k hlt sj
          have hb3 := hb.setCell (p := ⟨w.heap.size, k, none⟩) (Nat.le_refl _) (.int .u8 (sj.toNat : Int))
          clear ck f7 hC hb
          generalize w3.setCell ⟨w.heap.size, k, none⟩ (.int .u8 (sj.toNat : Int)) = w4 at *
          have c8 : w4.cell? ⟨w.heap.size, nj.toNat, none⟩ = some (.int .u8 (((s.set k sj).getD nj.toNat 0).toNat : Int)) := h3.at _ hj
          have f8 := h3.free nj.toNat none
          generalize (s.set k sj).getD nj.toNat 0 = old at *
          have h4 := h3.setS nj.toNat hj p
          have hb4 := hb3.setCell (p := ⟨w.heap.size, nj.toNat, none⟩) (Nat.le_refl _) (.int .u8 (p.toNat : Int))
          have h5 : RC (w4.setCell ⟨w.heap.size, nj.toNat, none⟩ (.int .u8 (p.toNat : Int))) w.heap.size (rawC (ksa key (k + 1)).1) := by
            rw [es1'.out, ← hp'.out, swp, hsj'.out, hp'.out]
            exact h4
          clear h3 h4 hb3
          go_wp2_with fail
          go_roundw
          case rel =>
            have e2 := es2'.out
            (repeat apply Exists.intro)
            exact ⟨⟨k + 1, by omega, by go_num, by rw [e2], h5, hb4⟩, rfl⟩
          case measure => simp [intOf]; omega
        · obtain rfl : k = 256 := by omega
          have hC7 : RC wr w.heap.size (newC key) := hC
          clear hC
          go_wp2
          go_ret2
          exact ⟨rfl, hC7, hb⟩
end Go.Proofs.Ytokfophpjkglmaa
