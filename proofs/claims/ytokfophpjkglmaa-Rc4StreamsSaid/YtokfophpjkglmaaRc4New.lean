/-
  The walk of the function that makes a key's stream. Conditions: the slice reads as bytes.
-/
import Derived.Test.YtokfophpjkglmaaRc4Clone
namespace Go.Proofs.Ytokfophpjkglmaa
open Go.RowKit
theorem new_no (a : Option Addr) (n c : Nat) (w : World) (h : n < 1 ∨ 256 < n) :
    Calls Try.prog 10 #[.slice a n c] w fun e w' => e = .returned (.tuple #[.pointer none, .int .i64 1]) ∧ w = w' := by
  rcases h with h | h
  · go_enter Try.func10, Try.ntmps10
    go_wp2_with fail
    go_ret2
    exact ⟨rfl, rfl⟩
  · go_enter Try.func10, Try.ntmps10
    go_wp2_with fail
    go_ret2
    exact ⟨rfl, rfl⟩
theorem swap_nat (b v : Nat) (C : Cph) (k : Nat) (j : UInt8) (w : World) (hk : k < 256) (hC : Ciph w b C) (hV : Blk w v #[.pointer (some ⟨b, 0, none⟩)] 24) :
    Calls Try.prog 20 #[.int .u8 (k : Int), .int .u8 (j.toNat : Int), .pointer (some ⟨v, 0, none⟩)] w fun e w' => e = .returned (.tuple #[]) ∧ Ciph w' b { C with s := swp C.s k j.toNat } ∧ w.grownBy w' (some b) := by
  have h := swap_any b v C (UInt8.ofNat k) j w hC hV
  have e : (UInt8.ofNat k).toNat = k := by simp; omega
  rw [e] at h
  exact h
theorem zeroC_ne : (zeroC = #[]) = False := by
  have h := zeroC_size
  simp only [eq_iff_iff, iff_false]
  intro e
  rw [e] at h
  simp at h
theorem fill_snoc (k : Nat) (hk : k < 256) : (((List.range k).map UInt8.ofNat) ++ List.replicate (256 - k) (0 : UInt8)).set k (UInt8.ofNat k) = ((List.range (k + 1)).map UInt8.ofNat) ++ List.replicate (256 - (k + 1)) 0 := by
  rw [List.set_append_right _ _ (by simp), List.range_succ, List.map_append, show 256 - k = (256 - (k + 1)) + 1 by omega, List.replicate_succ]
  simp
set_option maxRecDepth 100000 in
set_option maxHeartbeats 1000000 in
theorem new_yes (a : Option Addr) (n c : Nat) (key : List UInt8) (w : World) (hB : Bts w a n c key) (h1 : 1 ≤ n) (h2 : n ≤ 256) :
    Calls Try.prog 10 #[.slice a n c] w fun e w' => e = .returned (.tuple #[.pointer (some ⟨w.heap.size, 0, none⟩), .int .i64 0]) ∧ Ciph w' w.heap.size (newC key) ∧ Below w.heap.size w w' := by
  have hl := hB.len
  have hcap := hB.cap
  have hz : ∀ w, (zeroValue 45).run Try.prog w = .ok (.agg zeroC) w := fun w => by kernel_rfl
  have hz1 : (zeroC = #[]) = False := zeroC_ne
  have hz2 : zeroC.size = 262 := zeroC_size
  obtain ⟨b0, o0, rfl, hcl⟩ := hB.addr (by omega)
  go_enter Try.func10, Try.ntmps10
  go_wp2_with fail
  clear hz hz1 hz2 hcl
  have hb1 : Below w.heap.size w ((w.alloc (.cells (zeroC.setIfInBounds 0 (.bool true)) 45)).alloc (.cells #[.pointer (some ⟨w.heap.size, 0, none⟩)] 24)) := below_alloc (below_alloc (Below.refl _ _) _ (Nat.le_refl _)) _ (Nat.le_refl _)
  have hC1 : Ciph ((w.alloc (.cells (zeroC.setIfInBounds 0 (.bool true)) 45)).alloc (.cells #[.pointer (some ⟨w.heap.size, 0, none⟩)] 24)) w.heap.size (rawC (List.replicate 256 0)) := by
    rw [raw_cells]
    exact ⟨(Blk.new w _ _).below (below_alloc (Below.refl _ _) _ (Nat.le_refl _)) (by simp), symC_length 0⟩
  have hV1 : Blk ((w.alloc (.cells (zeroC.setIfInBounds 0 (.bool true)) 45)).alloc (.cells #[.pointer (some ⟨w.heap.size, 0, none⟩)] 24)) (w.heap.size + 1) #[.pointer (some ⟨w.heap.size, 0, none⟩)] 24 := by
    have := Blk.new (w.alloc (.cells (zeroC.setIfInBounds 0 (.bool true)) 45)) #[.pointer (some ⟨w.heap.size, 0, none⟩)] 24
    rwa [alloc_size] at this
  generalize ((w.alloc (.cells (zeroC.setIfInBounds 0 (.bool true)) 45)).alloc (.cells #[.pointer (some ⟨w.heap.size, 0, none⟩)] 24)) = w1 at *
  go_loopw [19] (fun i wr => ∃ k : Nat, k ≤ 256 ∧ i = .int .i64 k ∧ Ciph wr w.heap.size (rawC (((List.range k).map UInt8.ofNat) ++ List.replicate (256 - k) (0 : UInt8))) ∧ Blk wr (w.heap.size + 1) #[.pointer (some ⟨w.heap.size, 0, none⟩)] 24 ∧ Below w.heap.size w wr) (fun i _ => 256 - (intOf i).toNat)
  case atStart => exact ⟨0, by omega, rfl, hC1, hV1, hb1⟩
  case round =>
    obtain ⟨k, hk, rfl, hC, hV, hb⟩ := hrel
    have cv : wr.cell? ⟨w.heap.size + 1, 0, none⟩ = some (.pointer (some ⟨w.heap.size, 0, none⟩)) := by rw [hV.cell]; rfl
    by_cases hlt : k < 256
    · have ck := hC.at k hlt
      have fk := hC.free (3 + k) none
      have hC2 := hC.setS k hlt (UInt8.ofNat k)
      have e1 : ((UInt8.ofNat k).toNat : Int) = (k : Int) := by simp; omega
      rw [e1] at hC2
      simp only [rawC, fill_snoc k hlt] at hC2
      generalize (rawC (((List.range k).map UInt8.ofNat) ++ List.replicate (256 - k) (0 : UInt8))).s.getD k 0 = z0 at *
      have hV2 := hV.grown (grown_set (w := wr) (b := w.heap.size) (o := 3 + k) (v := .int .u8 (k : Int))) (by simp)
      have hb2 := hb.setCell (p := ⟨w.heap.size, 3 + k, none⟩) (Nat.le_refl _) (.int .u8 (k : Int))
      clear e1
      go_wp2
      go_roundw
      case rel => exact ⟨k + 1, by omega, by go_num, hC2, hV2, hb2⟩
      case measure => simp [intOf]; omega
    · obtain rfl : k = 256 := by omega
      have hC2 : Ciph wr w.heap.size (rawC (ksa key 0).1) := by simpa [ksa] using hC
      clear hC hC1 hV1 hb1
      go_wp2
      go_loopw [7, 31] (fun j i wr => ∃ k : Nat, k ≤ 256 ∧ i = .int .i64 k ∧ j = .int .u8 (((ksa key k).2.toNat : Nat) : Int) ∧ Ciph wr w.heap.size (rawC (ksa key k).1) ∧ Blk wr (w.heap.size + 1) #[.pointer (some ⟨w.heap.size, 0, none⟩)] 24 ∧ Below w.heap.size w wr) (fun _ i _ => 256 - (intOf i).toNat)
      case atStart => exact ⟨0, by omega, rfl, rfl, hC2, hV, hb⟩
      case round =>
        clear cv hC2 hV hb
        obtain ⟨k, hk, rfl, rfl, hC, hV, hb⟩ := hrel
        have cv : wr.cell? ⟨w.heap.size + 1, 0, none⟩ = some (.pointer (some ⟨w.heap.size, 0, none⟩)) := by rw [hV.cell]; rfl
        by_cases hlt : k < 256
        · have ck := hC.at k hlt
          have hmod : k % n < n := Nat.mod_lt _ (by omega)
          have g1 := hB.get hb hmod
          have ht : ((k : Nat) : Int).tmod (n : Int) = ((k % n : Nat) : Int) := by rw [Int.tmod_eq_emod_of_nonneg (by omega)]; omega
          have hmodI : ((k % n : Nat) : Int) < (n : Int) := by omega
          have hnz : ((n : Int) == 0) = false := by simp; omega
          have es1 : (ksa key (k + 1)).1 = swp (rawC (ksa key k).1).s k ((ksa key k).2 + ((rawC (ksa key k).1).s.getD k 0 + key.getD (k % n) 0)).toNat := by rw [← hl]; rfl
          have es2 : (ksa key (k + 1)).2 = (ksa key k).2 + ((rawC (ksa key k).1).s.getD k 0 + key.getD (k % n) 0) := by rw [← hl]; rfl
          have hkI : (k : Int) < 256 := by omega
          generalize (rawC (ksa key k).1).s.getD k 0 = p at *
          generalize key.getD (k % n) 0 = q at *
          generalize k % n = m at *
          generalize (ksa key k).2 = j at *
          have hw1 : IntKind.u8.wrap ((p.toNat : Int) + (q.toNat : Int)) = (((p + q).toNat : Nat) : Int) := by rw [IntKind.wrap_u8', u8_add]
          generalize p + q = z at *
          have hw2 : IntKind.u8.wrap ((j.toNat : Int) + (z.toNat : Int)) = (((j + z).toNat : Nat) : Int) := by rw [IntKind.wrap_u8', u8_add]
          generalize j + z = j2 at *
          have es1' := Lib.hid es1; clear es1
          have es2' := Lib.hid es2; clear es2
          go_wp2_with fail
          go_quiet (fail)
          go_wp2_with fail
          refine (swap_nat _ _ _ k j2 _ hlt (hC.grown (grown_drewN wr nq none) (by simp)) (hV.grown (grown_drewN wr nq none) (by simp))).mono ?_
          rintro e w5 ⟨rfl, hC5, hg5⟩
          have hV5 := (hV.grown (grown_drewN wr nq none) (by simp)).grown hg5 (by simp)
          have hb5 := below_grow (below_drewN hb nq) hg5 (below_drewN hb nq).size (Nat.le_refl _)
          have hC6 : Ciph w5 w.heap.size (rawC (ksa key (k + 1)).1) := by rw [es1'.out]; exact hC5
          clear hC5 hC hV hb ck g1 cv ht hw1 hw2
          go_wp2_with fail
          go_roundw
          case rel =>
            have e2 := es2'.out
            (repeat apply Exists.intro)
            exact ⟨⟨k + 1, by omega, by go_num, by rw [e2], hC6, hV5, hb5⟩, rfl⟩
          case measure => simp [intOf]; omega
        · obtain rfl : k = 256 := by omega
          have hC7 : Ciph wr w.heap.size (newC key) := hC
          clear hC
          go_wp2
          go_ret2
          exact ⟨rfl, hC7, hb⟩
end Go.Proofs.Ytokfophpjkglmaa
