/-
  The walk of the reference's Head. No conditions.
-/
import Derived.Test.YtglmlhbchfgliaaMuHead
namespace Go.Proofs.Ytglmlhbchfgliaa
open Go.RowKit
theorem or_add (a b k : Nat) (hb : b < 2 ^ k) (ha : a * 2 ^ k < 9223372036854775808) (hb2 : b < 9223372036854775808) : bits .or .i64 ((a * 2 ^ k : Nat) : Int) (b : Int) = ((a * 2 ^ k + b : Nat) : Int) := by
  have := i64_or_nat (a * 2 ^ k) b ha hb2
  rw [this, Nat.mul_comm, ← Nat.two_pow_add_eq_or_of_lt hb]
theorem rhead_short {w : World} {a : Option Addr} {n c : Nat} (short : Bool) (hn : n < hdSize short) :
    Calls Try.prog 19 #[.slice a n c, .bool short] w fun e w' => e = .returned (.tuple #[.int .i64 0, .bool false, .bool false, .slice none 0 0, .int .i64 2]) ∧ w = w' := by
  cases short
  · have hnI : (n : Int) < 4 := by have : n < 4 := hn; omega
    go_enter Try.func19, Try.ntmps19
    go_wp2_with fail
    (try simp only [Exit.inBlock, Exit.then])
    refine bodyPost_ret (results_tmp5 rfl _ _ _) rfl ?_
    exact ⟨rfl, rfl⟩
  · have hnI : (n : Int) < 2 := by have : n < 2 := hn; omega
    go_enter Try.func19, Try.ntmps19
    go_wp2_with fail
    (try simp only [Exit.inBlock, Exit.then])
    refine bodyPost_ret (results_tmp5 rfl _ _ _) rfl ?_
    exact ⟨rfl, rfl⟩
set_option maxRecDepth 100000 in
set_option maxHeartbeats 2000000 in
theorem rhead_bad {w : World} {a : Option Addr} {n c : Nat} {l : List UInt8} (short : Bool) (h : Bts w a n c l) (hn : hdSize short ≤ n) (hbad : (l.getD 0 0).toNat &&& hdMask short ≠ 0) :
    Calls Try.prog 19 #[.slice a n c, .bool short] w fun e w' => e = .returned (.tuple #[.int .i64 0, .bool false, .bool false, .slice none 0 0, .int .i64 4]) ∧ Below w.heap.size w w' := by
  have hc := h.cap
  have hmo := h.most
  have hx := (l.getD 0 0).toNat_lt
  have hx1 := (l.getD 1 0).toNat_lt
  have hx2 := (l.getD 2 0).toNat_lt
  have hx3 := (l.getD 3 0).toNat_lt
  have hw : wrap64 ((l.getD 0 0).toNat : Int) = ((l.getD 0 0).toNat : Int) := wrap64_in _ (by omega)
  have hw1 : wrap64 ((l.getD 1 0).toNat : Int) = ((l.getD 1 0).toNat : Int) := wrap64_in _ (by omega)
  cases short
  · have hn : 4 ≤ n := hn
    have hand : bits .and .u8 ((l.getD 0 0).toNat : Int) 63 = (((l.getD 0 0).toNat &&& 63 : Nat) : Int) := u8_and _ _ (by omega) (by omega) (by omega) (by omega)
    have hbad : (l.getD 0 0).toNat &&& 63 ≠ 0 := hbad
    obtain ⟨b, o, rfl, hcl⟩ := h.addr (by omega)
    have g0 := hcl 0 (by omega)
    have g1 := hcl 1 (by omega)
    have g2 := hcl 2 (by omega)
    have g3 := hcl 3 (by omega)
    simp only [Nat.add_zero] at g0
    generalize (l.getD 0 0).toNat &&& 63 = z at hand hbad
    have hzI : ((z : Nat) : Int) ≠ 0 := by omega
    generalize (l.getD 0 0).toNat = x at g0 hand hw hx
    generalize (l.getD 1 0).toNat = x1 at g1 hw1 hx1
    generalize (l.getD 2 0).toNat = x2 at g2 hx2
    generalize (l.getD 3 0).toNat = x3 at g3 hx3
    go_enter Try.func19, Try.ntmps19
    go_wp2_with fail
    go_quiet (fail)
    go_wp2_with fail
    (try simp only [Exit.inBlock, Exit.then])
    refine bodyPost_ret (results_tmp5 rfl _ _ _) rfl ?_
    exact ⟨rfl, below_drewN (Below.refl _ _) nq⟩
  · have hn : 2 ≤ n := hn
    have hand : bits .and .u8 ((l.getD 0 0).toNat : Int) 48 = (((l.getD 0 0).toNat &&& 48 : Nat) : Int) := u8_and _ _ (by omega) (by omega) (by omega) (by omega)
    have hbad : (l.getD 0 0).toNat &&& 48 ≠ 0 := hbad
    obtain ⟨b, o, rfl, hcl⟩ := h.addr (by omega)
    have g0 := hcl 0 (by omega)
    have g1 := hcl 1 (by omega)
    simp only [Nat.add_zero] at g0
    generalize (l.getD 0 0).toNat &&& 48 = z at hand hbad
    have hzI : ((z : Nat) : Int) ≠ 0 := by omega
    generalize (l.getD 0 0).toNat = x at g0 hand hw hx
    generalize (l.getD 1 0).toNat = x1 at g1 hw1 hx1
    go_enter Try.func19, Try.ntmps19
    go_wp2_with fail
    go_quiet (fail)
    go_wp2_with fail
    go_quiet (fail)
    go_wp2_with fail
    (try simp only [Exit.inBlock, Exit.then])
    refine bodyPost_ret (results_tmp5 rfl _ _ _) rfl ?_
    exact ⟨rfl, below_drewN (Below.refl _ _) _⟩
set_option maxRecDepth 100000 in
set_option maxHeartbeats 2000000 in
theorem rhead_ok {w : World} {a : Option Addr} {n c : Nat} {l : List UInt8} (short : Bool) (h : Bts w a n c l) (hn : hdSize short ≤ n) (hbad : (l.getD 0 0).toNat &&& hdMask short = 0) :
    Calls Try.prog 19 #[.slice a n c, .bool short] w fun e w' => ∃ v, e = .returned (.tuple #[.int .i64 (hdNum l (hdSize short - 1) : Nat), .bool ((l.getD 0 0).toNat &&& 128 != 0), .bool ((l.getD 0 0).toNat &&& 64 != 0), v, .int .i64 0]) ∧
      w'.ownsRow w.heap.size 5 1 v (n - hdSize short) ((l.drop (hdSize short)).map bv) ∧ Below w.heap.size w w' := by
  have hc := h.cap
  have hmo := h.most
  have hx := (l.getD 0 0).toNat_lt
  have hx1 := (l.getD 1 0).toNat_lt
  have hx2 := (l.getD 2 0).toNat_lt
  have hx3 := (l.getD 3 0).toNat_lt
  have hr := h.reach
  obtain ⟨i0, hi, hz0, hz1, hz2⟩ := info_parts Try.info5
  have hi' := Lib.hid hi; clear hi
  cases short
  · have hn : 4 ≤ n := hn
    have hand : bits .and .u8 ((l.getD 0 0).toNat : Int) 63 = (((l.getD 0 0).toNat &&& 63 : Nat) : Int) := u8_and _ _ (by omega) (by omega) (by omega) (by omega)
    have hbad : (l.getD 0 0).toNat &&& 63 = 0 := hbad
    rw [hbad] at hand
    have hb1 : bits .and .u8 ((l.getD 0 0).toNat : Int) 128 = (((l.getD 0 0).toNat &&& 128 : Nat) : Int) := u8_and _ _ (by omega) (by omega) (by omega) (by omega)
    have hb2 : bits .and .u8 ((l.getD 0 0).toNat : Int) 64 = (((l.getD 0 0).toNat &&& 64 : Nat) : Int) := u8_and _ _ (by omega) (by omega) (by omega) (by omega)
    obtain ⟨b, o, rfl, hcl⟩ := h.addr (by omega)
    have g0 := hcl 0 (by omega)
    have g1 := hcl 1 (by omega)
    have g2 := hcl 2 (by omega)
    have g3 := hcl 3 (by omega)
    simp only [Nat.add_zero] at g0
    have hs := h.drop hn
    have hsl : ∀ W, (Instr.slice 27 (.slice (some ⟨b, o, none⟩) n c) (some (.int .i64 4)) none none).run Try.prog W = .ok (.slice (if c = 4 then some ⟨b, o, none⟩ else (some (⟨b, o, none⟩ : Addr)).map (·.add 4)) (n - 4) (c - 4)) W := fun W => run_sub (P := Try.prog) Try.underlying27 hi'.out hz1 (some ⟨b, o, none⟩) n c 4 hn W
    generalize (if c = 4 then some (⟨b, o, none⟩ : Addr) else (some (⟨b, o, none⟩ : Addr)).map (·.add 4)) = a4 at hs hsl
    have hN : hdNum l 3 = (((l.getD 0 0).toNat &&& 15) * 256 + (l.getD 1 0).toNat) * 65536 + (l.getD 2 0).toNat * 256 + (l.getD 3 0).toNat := by
      show ((((l.getD 0 0).toNat &&& 15) * 256 + (l.getD 1 0).toNat) * 256 + (l.getD 2 0).toNat) * 256 + (l.getD 3 0).toNat = _
      omega
    have h15 : (l.getD 0 0).toNat &&& 15 = 0 := by
      have : (15 : Nat) = 63 &&& 15 := by decide
      rw [this, ← Nat.and_assoc, hbad]; simp
    rw [h15] at hN
    have e2 : bits .or .i64 (((l.getD 1 0).toNat : Int) * 65536) (((l.getD 2 0).toNat : Int) * 256) = (((l.getD 1 0).toNat * 65536 + (l.getD 2 0).toNat * 256 : Nat) : Int) := by
      have := or_add (l.getD 1 0).toNat ((l.getD 2 0).toNat * 256) 16 (by omega) (by omega) (by omega)
      rw [← this]
      congr 1
    have e3 : bits .or .i64 (((l.getD 1 0).toNat * 65536 + (l.getD 2 0).toNat * 256 : Nat) : Int) ((l.getD 3 0).toNat : Int) = ((hdNum l 3 : Nat) : Int) := by
      have := or_add ((l.getD 1 0).toNat * 256 + (l.getD 2 0).toNat) (l.getD 3 0).toNat 8 (by omega) (by omega) (by omega)
      rw [hN, show 0 * 256 + (l.getD 1 0).toNat = (l.getD 1 0).toNat by omega, ← show ((l.getD 1 0).toNat * 256 + (l.getD 2 0).toNat) * 2 ^ 8 + (l.getD 3 0).toNat = (l.getD 1 0).toNat * 65536 + (l.getD 2 0).toNat * 256 + (l.getD 3 0).toNat by omega, ← this]
      congr 1
      omega
    clear hN
    generalize hNe : hdNum l 3 = N at e3
    replace hNe := Lib.hid hNe
    have hnz : 0 < n := by omega
    generalize (l.getD 1 0).toNat * 65536 + (l.getD 2 0).toNat * 256 = M at e2 e3
    generalize (l.getD 0 0).toNat = x at *
    generalize (l.getD 1 0).toNat = x1 at *
    generalize (l.getD 2 0).toNat = x2 at *
    generalize (l.getD 3 0).toNat = x3 at *
    go_enter Try.func19, Try.ntmps19
    go_wp2_with fail
    go_quiet (fail)
    go_wp2_with fail
    have g0n : (w.drewN nq).cell? ⟨b, o, none⟩ = some (.int .u8 (x : Int)) := g0
    go_region_held3 (fun W => W.cell? ⟨b, o, none⟩ = some (.int .u8 (x : Int))) (first | exact g0 | exact g0') ((go_at_call 33; refine (copy_any _ _ _ _ _ ((hs.drewN _).drew)).mono ?_; rintro e w' ⟨v, rfl, ho, hb'⟩; have g0' := (hb'.cell (p := ⟨b, o, none⟩) (World.block_lt_of_cell? _ _ g0)).trans g0))
    go_wp2_with fail
    (try simp only [Exit.inBlock, Exit.then])
    refine bodyPost_ret (results_tmp5 rfl _ _ _) rfl ?_
    refine ⟨v, ?_, ho, ((below_drewN (Below.refl w.heap.size w) nq).drew).trans hb'⟩
    refine congrArg Ending.returned (congrArg Value.tuple ?_)
    rw [bne_cast, bne_cast, ← hNe.out]
    rfl
  · have hn : 2 ≤ n := hn
    have hand : bits .and .u8 ((l.getD 0 0).toNat : Int) 48 = (((l.getD 0 0).toNat &&& 48 : Nat) : Int) := u8_and _ _ (by omega) (by omega) (by omega) (by omega)
    have hbad : (l.getD 0 0).toNat &&& 48 = 0 := hbad
    rw [hbad] at hand
    have hb1 : bits .and .u8 ((l.getD 0 0).toNat : Int) 128 = (((l.getD 0 0).toNat &&& 128 : Nat) : Int) := u8_and _ _ (by omega) (by omega) (by omega) (by omega)
    have hb2 : bits .and .u8 ((l.getD 0 0).toNat : Int) 64 = (((l.getD 0 0).toNat &&& 64 : Nat) : Int) := u8_and _ _ (by omega) (by omega) (by omega) (by omega)
    have hb3 : bits .and .u8 ((l.getD 0 0).toNat : Int) 15 = (((l.getD 0 0).toNat &&& 15 : Nat) : Int) := u8_and _ _ (by omega) (by omega) (by omega) (by omega)
    obtain ⟨b, o, rfl, hcl⟩ := h.addr (by omega)
    have g0 := hcl 0 (by omega)
    have g1 := hcl 1 (by omega)
    simp only [Nat.add_zero] at g0
    have hs := h.drop hn
    have hsl : ∀ W, (Instr.slice 27 (.slice (some ⟨b, o, none⟩) n c) (some (.int .i64 2)) none none).run Try.prog W = .ok (.slice (if c = 2 then some ⟨b, o, none⟩ else (some (⟨b, o, none⟩ : Addr)).map (·.add 2)) (n - 2) (c - 2)) W := fun W => run_sub (P := Try.prog) Try.underlying27 hi'.out hz1 (some ⟨b, o, none⟩) n c 2 hn W
    generalize (if c = 2 then some (⟨b, o, none⟩ : Addr) else (some (⟨b, o, none⟩ : Addr)).map (·.add 2)) = a4 at hs hsl
    have hN : hdNum l 1 = ((l.getD 0 0).toNat &&& 15) * 256 + (l.getD 1 0).toNat := rfl
    have h15 : (l.getD 0 0).toNat &&& 15 < 2 ^ 4 := Nat.and_lt_two_pow _ (by decide)
    generalize (l.getD 0 0).toNat &&& 15 = y at hb3 hN h15
    have e3 : bits .or .i64 ((y : Int) * 256) ((l.getD 1 0).toNat : Int) = ((hdNum l 1 : Nat) : Int) := by
      have := or_add y (l.getD 1 0).toNat 8 (by omega) (by omega) (by omega)
      rw [hN, ← show y * 2 ^ 8 + (l.getD 1 0).toNat = y * 256 + (l.getD 1 0).toNat by omega, ← this]
      congr 1
    have hy : y ≤ 15 := by omega
    have hyw : wrap64 (y : Int) = (y : Int) := wrap64_in _ (by omega)
    clear hN h15
    generalize hNe : hdNum l 1 = N at e3
    replace hNe := Lib.hid hNe
    have hnz : 0 < n := by omega
    generalize (l.getD 0 0).toNat = x at *
    generalize (l.getD 1 0).toNat = x1 at *
    go_enter Try.func19, Try.ntmps19
    go_wp2_with fail
    go_quiet (fail)
    go_wp2_with fail
    go_quiet (fail)
    go_wp2_with fail
    go_region_held3 (fun W => W.cell? ⟨b, o, none⟩ = some (.int .u8 (x : Int))) (first | exact g0 | exact g0') ((go_at_call 33; refine (copy_any _ _ _ _ _ ((hs.drewN _).drew)).mono ?_; rintro e w' ⟨v, rfl, ho, hb'⟩; have g0' := (hb'.cell (p := ⟨b, o, none⟩) (World.block_lt_of_cell? _ _ g0)).trans g0))
    go_wp2_with fail
    (try simp only [Exit.inBlock, Exit.then])
    refine bodyPost_ret (results_tmp5 rfl _ _ _) rfl ?_
    refine ⟨v, ?_, ho, ((below_drewN (Below.refl w.heap.size w) _).drew).trans hb'⟩
    refine congrArg Ending.returned (congrArg Value.tuple ?_)
    rw [bne_cast, bne_cast, ← hNe.out]
    rfl
theorem rhead_any {w : World} {a : Option Addr} {n c : Nat} {l : List UInt8} (short : Bool) (h : Bts w a n c l) :
    Calls Try.prog 19 #[.slice a n c, .bool short] w fun e w' => ∃ v, e = .returned ((headP l short).res v) ∧
      w'.ownsRow w.heap.size 5 1 v (headP l short).body.length ((headP l short).body.map bv) ∧ Below w.heap.size w w' := by
  have hl := h.len
  unfold headP
  by_cases h1 : l.length < hdSize short
  · rw [if_pos h1]
    refine (rhead_short short (by omega)).mono ?_
    rintro e w' ⟨rfl, rfl⟩
    exact ⟨_, rfl, World.ownsRow_nil _ _ _ _, Below.refl _ _⟩
  · rw [if_neg h1]
    by_cases h2 : (l.getD 0 0).toNat &&& hdMask short ≠ 0
    · rw [if_pos h2]
      refine (rhead_bad short h (by omega) h2).mono ?_
      rintro e w' ⟨rfl, hb⟩
      exact ⟨_, rfl, World.ownsRow_nil _ _ _ _, hb⟩
    · rw [if_neg h2]
      refine (rhead_ok short h (by omega) (by simpa using h2)).mono ?_
      rintro e w' ⟨v, rfl, ho, hb⟩
      exact ⟨v, rfl, own_congr ho (by simp [hl]) rfl, hb⟩
end Go.Proofs.Ytglmlhbchfgliaa
