/-
  A fragment's head: plainly, and the walks of head and Head of the program. No conditions.
-/
import Derived.Test.YtglmlhbchfgliaaLib
import Derived.Test.YtglmlhbchfgliaaFrame
import Derived.Test.YtglmlhbchfgliaaMuBase
import Derived.Test.YtglmlhbchfgliaaSame
import Derived.Laws.BitsAllLaws
import Derived.Deep.RegionHeld
import Derived.Deep.MidRow
namespace Go.Proofs.Ytglmlhbchfgliaa
open Go.RowKit
theorem ofInt_u64 (a : Nat) (ha : a < 18446744073709551616) : (BitVec.ofInt 64 (a : Int)).toNat = a := by
  rw [BitVec.toNat_ofInt]
  omega
theorem i64_and_nat (a b : Nat) (ha : a < 9223372036854775808) (hb : b < 9223372036854775808) : bits .and .i64 (a : Int) (b : Int) = ((a &&& b : Nat) : Int) := by
  have hx : a &&& b < 2 ^ 63 := Nat.and_lt_two_pow _ (by omega)
  show IntKind.i64.wrap ((BitVec.ofInt 64 (a : Int) &&& BitVec.ofInt 64 (b : Int)).toNat : Int) = _
  rw [BitVec.toNat_and, ofInt_u64 a (by omega), ofInt_u64 b (by omega), IntKind.wrap_i64]
  omega
theorem i64_or_nat (a b : Nat) (ha : a < 9223372036854775808) (hb : b < 9223372036854775808) : bits .or .i64 (a : Int) (b : Int) = ((a ||| b : Nat) : Int) := by
  have hx : a ||| b < 2 ^ 63 := Nat.or_lt_two_pow (by omega) (by omega)
  show IntKind.i64.wrap ((BitVec.ofInt 64 (a : Int) ||| BitVec.ofInt 64 (b : Int)).toNat : Int) = _
  rw [BitVec.toNat_or, ofInt_u64 a (by omega), ofInt_u64 b (by omega), IntKind.wrap_i64]
  omega
theorem Blk.of_eq {w : World} {b : Nat} {cs ds : Array Value} {T : TypeId} (h : Blk w b cs T) (he : cs = ds) : Blk w b ds T := he ▸ h
theorem wrap64_in (n : Int) (h : -9223372036854775808 ≤ n ∧ n ≤ 9223372036854775807) : wrap64 n = n := by unfold wrap64; omega
/-- a fragment's head -/
def headB (n flags : Nat) (short : Bool) : List UInt8 :=
  if short then [UInt8.ofNat (flags ||| n / 256), UInt8.ofNat n] else [UInt8.ofNat flags, UInt8.ofNat (n / 65536), UInt8.ofNat (n / 256), UInt8.ofNat n]
theorem headB_len (n flags : Nat) (short : Bool) : (headB n flags short).length = if short then 2 else 4 := by cases short <;> rfl
set_option maxRecDepth 100000 in
theorem head_any (n flags : Nat) (short : Bool) (w : World) (hn : n < 16777216) (hf : flags < 256) :
    Calls Try.prog 28 #[.int .i64 (n : Nat), .int .i64 (flags : Nat), .bool short] w fun e w' => ∃ g, e = .returned (.slice (some ⟨g, 0, none⟩) (headB n flags short).length (headB n flags short).length) ∧ w.heap.size ≤ g ∧
      Blk w' g ((headB n flags short).map bv).toArray 5 ∧ Below w.heap.size w w' := by
  cases short
  · go_enter Try.func28, Try.ntmps28
    go_wp2_with fail
    go_ret
    refine ⟨w.heap.size, rfl, Nat.le_refl _, ?_, below_alloc (Below.refl _ _) _ (Nat.le_refl _)⟩
    refine (Blk.new _ _ _).of_eq ?_
    have e1 : (flags : Int) = ((UInt8.ofNat flags).toNat : Int) := by simp; omega
    have e2 : (n : Int) / 65536 = ((UInt8.ofNat (n / 65536)).toNat : Int) := by simp; omega
    have e3 : (n : Int) / 256 % 256 = ((UInt8.ofNat (n / 256)).toNat : Int) := by simp
    have e4 : (n : Int) % 256 = ((UInt8.ofNat n).toNat : Int) := by simp
    rw [e1, e2, e3, e4]
    rfl
  · go_enter Try.func28, Try.ntmps28
    go_wp2_with fail
    go_ret
    refine ⟨w.heap.size, rfl, Nat.le_refl _, ?_, below_alloc (Below.refl _ _) _ (Nat.le_refl _)⟩
    refine (Blk.new _ _ _).of_eq ?_
    have e2 : (n : Int) / 256 = ((n / 256 : Nat) : Int) := by simp
    have e4 : (n : Int) % 256 = ((UInt8.ofNat n).toNat : Int) := by simp
    rw [e4, e2, i64_or_nat _ _ (by omega) (by omega)]
    have e1 : (((flags ||| n / 256 : Nat) : Int)) % 256 = ((UInt8.ofNat (flags ||| n / 256)).toNat : Int) := by generalize flags ||| n / 256 = x; simp
    rw [e1]
    rfl
theorem eq_nilB (a : Option Addr) (n c : Nat) (w : World) : Sem.run Try.prog (binOp BinOp.eql 27 (.slice a n c) (.slice none 0 0)) w = .ok (.bool a.isNone) w := by cases a <;> kernel_rfl
/-- bytes.Clone -/
theorem bclone_any {w : World} {a : Option Addr} {n c : Nat} {l : List UInt8} (h : Bts w a n c l) :
    Calls Try.prog 32 #[.slice a n c] w fun e w' => ∃ v, e = .returned v ∧ w'.ownsRow w.heap.size 5 1 v n (l.map bv) ∧ Below w.heap.size w w' := by
  have hl := h.len
  have hc := h.cap
  have hr := h.reach
  obtain ⟨i0, hi, hz0, hz1, hz2⟩ := info_parts Try.info5
  have hi' := Lib.hid hi; clear hi
  have hq := eq_nilB a n c
  cases a with
  | none =>
    have h0 := h.nil rfl
    obtain rfl : n = 0 := by omega
    subst h0
    obtain rfl : l = [] := List.eq_nil_of_length_eq_zero hl
    go_enter Try.func32, Try.ntmps32
    go_wp2_with fail
    go_ret
    exact ⟨_, rfl, World.ownsRow_nil _ _ _ _, Below.refl _ _⟩
  | some x =>
    go_enter Try.func32, Try.ntmps32
    have hown : (w.alloc (.cells #[] 5)).ownsRow w.heap.size 5 1 (.slice (some ⟨w.heap.size, 0, none⟩) 0 0) 0 (([] : List UInt8).map bv) :=
      own_of_blk (n := 0) (c := 0) (cs := []) (Blk.new w #[] 5) (Nat.le_refl _) (Nat.le_refl _) (by decide) rfl
    have hB := h.below (below_alloc (Below.refl w.heap.size w) (.cells #[] 5) (Nat.le_refl _)) (Nat.le_refl _)
    have hs := alloc_size w (.cells #[] 5)
    go_wp2_with (at_builtin; go_must (refine wp_appB_at rfl _ _ 27 rfl w.heap.size 5 i0 _ 1 Try.underlying27 hi'.out hz0 hz1 hz2 rfl _ 0 _ rfl hown (some x) n c l rfl hB ?c3 ?c4 (by omega) ?_))
    case c3 => unfold maxLen; omega
    case c4 => omega
    intro v1 w1 ho hg _
    have hb := below_grown (below_alloc (Below.refl w.heap.size w) (.cells #[] 5) (Nat.le_refl _)) hown hg (by omega)
    go_wp2_with fail
    go_ret
    exact ⟨_, rfl, own_congr ho (by omega) (by simp), hb⟩
theorem bne_cast (m : Nat) : (((m : Nat) : Int) != 0) = (m != 0) := by cases m <;> rfl
theorem results_tmp5 {fn : Func} {t u v x y : Tmp} (h : fn.results = #[.tmp t, .tmp u, .tmp v, .tmp x, .tmp y]) (tmps : Array Value) (P : Program) (w : World) :
    (results fn tmps).run P w = .ok (.tuple #[tmps.getD t undef, tmps.getD u undef, tmps.getD v undef, tmps.getD x undef, tmps.getD y undef]) w := by
  simp [results, h]
/-- the size of a head -/
def hdSize (short : Bool) : Nat := if short then 2 else 4
def hdMask (short : Bool) : Nat := if short then 48 else 63
/-- the number that a head tells -/
def hdNum (l : List UInt8) : Nat → Nat
  | 0 => (l.getD 0 0).toNat &&& 15
  | k + 1 => hdNum l k * 256 + (l.getD (k + 1) 0).toNat
theorem hdNum_lt (l : List UInt8) : ∀ k, hdNum l k < 16 * 256 ^ k
  | 0 => by have : (l.getD 0 0).toNat &&& 15 < 2 ^ 4 := Nat.and_lt_two_pow _ (by decide); simpa [hdNum] using this
  | k + 1 => by
    have := hdNum_lt l k
    have h2 := (l.getD (k + 1) 0).toNat_lt
    rw [hdNum, Nat.pow_succ]
    omega
set_option maxHeartbeats 1000000 in
theorem mhead_ok {w : World} {a : Option Addr} {n c : Nat} {l : List UInt8} (short : Bool) (h : Bts w a n c l) (hn : hdSize short ≤ n) (hbad : (l.getD 0 0).toNat &&& hdMask short = 0) :
    Calls Try.prog 18 #[.slice a n c, .bool short] w fun e w' => ∃ v, e = .returned (.tuple #[.int .i64 (hdNum l (hdSize short - 1) : Nat), .bool ((l.getD 0 0).toNat &&& 128 != 0), .bool ((l.getD 0 0).toNat &&& 64 != 0), v, .int .i64 0]) ∧
      w'.ownsRow w.heap.size 5 1 v (n - hdSize short) ((l.drop (hdSize short)).map bv) ∧ Below w.heap.size w w' := by
  have hl := h.len
  have hc := h.cap
  have hr := h.reach
  have hmo := h.most
  obtain ⟨i0, hi, hz0, hz1, hz2⟩ := info_parts Try.info5
  have hi' := Lib.hid hi; clear hi
  cases short
  · have hn : 4 ≤ n := hn
    have hbad : (l.getD 0 0).toNat &&& 63 = 0 := hbad
    obtain ⟨b, o, rfl, hcl⟩ := h.addr (by omega)
    have g0 := hcl 0 (by omega)
    simp only [Nat.add_zero] at g0
    have hnum := fun k => hdNum_lt l k
    have hand : bits .and .i64 ((l.getD 0 0).toNat : Int) 63 = 0 := by
      have := i64_and_nat (l.getD 0 0).toNat 63 (by have := (l.getD 0 0).toNat_lt; omega) (by decide)
      rw [hbad] at this
      exact this
    have hand2 : bits .and .i64 ((l.getD 0 0).toNat : Int) 15 = (hdNum l 0 : Nat) := i64_and_nat (l.getD 0 0).toNat 15 (by have := (l.getD 0 0).toNat_lt; omega) (by decide)
    have hb1 : bits .and .u8 ((l.getD 0 0).toNat : Int) 128 = (((l.getD 0 0).toNat &&& 128 : Nat) : Int) := u8_and _ _ (by omega) (by have := (l.getD 0 0).toNat_lt; omega) (by omega) (by omega)
    have hb2 : bits .and .u8 ((l.getD 0 0).toNat : Int) 64 = (((l.getD 0 0).toNat &&& 64 : Nat) : Int) := u8_and _ _ (by omega) (by have := (l.getD 0 0).toNat_lt; omega) (by omega) (by omega)
    have hw : wrap64 ((l.getD 0 0).toNat : Int) = ((l.getD 0 0).toNat : Int) := wrap64_in _ (by have := (l.getD 0 0).toNat_lt; omega)
    generalize l.getD 0 0 = x at g0 hand hand2 hw hb1 hb2 ⊢
    go_enter Try.func18, Try.ntmps18
    go_wp2_with fail
    go_loopw [11, 13, 35] (fun vn _ vi wr => ∃ k : Nat, k ≤ 3 ∧ vi = .int .i64 k ∧ vn = .int .i64 (hdNum l k : Nat) ∧ wr = w) (fun _ _ vi _ => 3 - (intOf vi).toNat)
    case atStart => exact ⟨0, by omega, rfl, rfl, rfl⟩
    case round =>
      obtain ⟨k, hk, rfl, rfl, rfl⟩ := hrel
      by_cases hk3 : k < 3
      · have g1 := hcl (k + 1) (by omega)
        rw [show o + (k + 1) = o + 1 + k by omega] at g1
        have h1 := hdNum_lt l k
        have h2 : 256 ^ k ≤ 256 ^ 2 := Nat.pow_le_pow_right (by decide) (by omega)
        have e1 : hdNum l (k + 1) = hdNum l k * 256 + (l.getD (k + 1) 0).toNat := rfl
        replace e1 := Lib.hid e1
        have h3 : hdNum l k < 1048576 := by omega
        have h4 := (l.getD (k + 1) 0).toNat_lt
        clear h1 h2
        generalize hz : hdNum l (k + 1) = z at e1
        replace hz := Lib.hid hz
        generalize hdNum l k = y at h3 e1 ⊢
        generalize (l.getD (k + 1) 0).toNat = u at g1 h4 e1
        go_wp2_with fail
        have e2 : bits .or .i64 ((y : Int) * 256) (u : Int) = (z : Int) := by
          rw [e1.out]
          have := i64_or_nat (y * 256) u (by omega) (by omega)
          rw [Nat.mul_comm, show (256 : Nat) = 2 ^ 8 from rfl, ← Nat.two_pow_add_eq_or_of_lt h4] at this
          rw [show (y : Int) * 256 = ((2 ^ 8 * y : Nat) : Int) by omega, this]
          omega
        rw [e2, ← hz.out]
        refine ⟨⟨k + 1, by omega, rfl, rfl, trivial⟩, by simp [intOf]; omega⟩
      · have hk4 : k = 3 := by omega
        replace hk4 := Lib.hid hk4
        have hs := (h.drop hn)
        have hsl : ∀ W, (Instr.slice 27 (.slice (some ⟨b, o, none⟩) n c) (some (.int .i64 4)) none none).run Try.prog W = .ok (.slice (if c = 4 then some ⟨b, o, none⟩ else (some (⟨b, o, none⟩ : Addr)).map (·.add 4)) (n - 4) (c - 4)) W := fun W => run_sub (P := Try.prog) Try.underlying27 hi'.out hz1 (some ⟨b, o, none⟩) n c 4 hn W
        generalize (if c = 4 then some (⟨b, o, none⟩ : Addr) else (some (⟨b, o, none⟩ : Addr)).map (·.add 4)) = a4 at hs hsl
        have hnz : 0 < n := by omega
        go_wp2_with fail
        go_region_held3 (fun W => W.cell? ⟨b, o, none⟩ = some (.int .u8 (x.toNat : Int))) (first | exact g0 | exact g0') ((go_at_call 32; refine (bclone_any hs.drew).mono ?_; rintro e w' ⟨v, rfl, ho, hb'⟩; have g0' := (hb'.cell (p := ⟨b, o, none⟩) (World.block_lt_of_cell? _ _ g0)).trans g0))
        go_wp2_with fail
        (try simp only [Exit.inBlock, Exit.then])
        refine bodyPost_ret (results_tmp5 rfl _ _ _) rfl ?_
        have hke := hk4.out
        subst hke
        refine ⟨v, ?_, ho, below_of_drew hb'⟩
        refine congrArg Ending.returned (congrArg Value.tuple ?_)
        rw [bne_cast, bne_cast]
        rfl
  · have hn : 2 ≤ n := hn
    have hbad : (l.getD 0 0).toNat &&& 48 = 0 := hbad
    obtain ⟨b, o, rfl, hcl⟩ := h.addr (by omega)
    have g0 := hcl 0 (by omega)
    simp only [Nat.add_zero] at g0
    have hnum := fun k => hdNum_lt l k
    have hand : bits .and .i64 ((l.getD 0 0).toNat : Int) 48 = 0 := by
      have := i64_and_nat (l.getD 0 0).toNat 48 (by have := (l.getD 0 0).toNat_lt; omega) (by decide)
      rw [hbad] at this
      exact this
    have hand2 : bits .and .i64 ((l.getD 0 0).toNat : Int) 15 = (hdNum l 0 : Nat) := i64_and_nat (l.getD 0 0).toNat 15 (by have := (l.getD 0 0).toNat_lt; omega) (by decide)
    have hb1 : bits .and .u8 ((l.getD 0 0).toNat : Int) 128 = (((l.getD 0 0).toNat &&& 128 : Nat) : Int) := u8_and _ _ (by omega) (by have := (l.getD 0 0).toNat_lt; omega) (by omega) (by omega)
    have hb2 : bits .and .u8 ((l.getD 0 0).toNat : Int) 64 = (((l.getD 0 0).toNat &&& 64 : Nat) : Int) := u8_and _ _ (by omega) (by have := (l.getD 0 0).toNat_lt; omega) (by omega) (by omega)
    have hw : wrap64 ((l.getD 0 0).toNat : Int) = ((l.getD 0 0).toNat : Int) := wrap64_in _ (by have := (l.getD 0 0).toNat_lt; omega)
    generalize l.getD 0 0 = x at g0 hand hand2 hw hb1 hb2 ⊢
    go_enter Try.func18, Try.ntmps18
    go_wp2_with fail
    go_loopw [11, 13, 35] (fun vn _ vi wr => ∃ k : Nat, k ≤ 1 ∧ vi = .int .i64 k ∧ vn = .int .i64 (hdNum l k : Nat) ∧ wr = w) (fun _ _ vi _ => 1 - (intOf vi).toNat)
    case atStart => exact ⟨0, by omega, rfl, rfl, rfl⟩
    case round =>
      obtain ⟨k, hk, rfl, rfl, rfl⟩ := hrel
      by_cases hk3 : k < 1
      · have g1 := hcl (k + 1) (by omega)
        rw [show o + (k + 1) = o + 1 + k by omega] at g1
        have h1 := hdNum_lt l k
        have h2 : 256 ^ k ≤ 256 ^ 0 := Nat.pow_le_pow_right (by decide) (by omega)
        have e1 : hdNum l (k + 1) = hdNum l k * 256 + (l.getD (k + 1) 0).toNat := rfl
        replace e1 := Lib.hid e1
        have h3 : hdNum l k < 1048576 := by omega
        have h4 := (l.getD (k + 1) 0).toNat_lt
        clear h1 h2
        generalize hz : hdNum l (k + 1) = z at e1
        replace hz := Lib.hid hz
        generalize hdNum l k = y at h3 e1 ⊢
        generalize (l.getD (k + 1) 0).toNat = u at g1 h4 e1
        go_wp2_with fail
        have e2 : bits .or .i64 ((y : Int) * 256) (u : Int) = (z : Int) := by
          rw [e1.out]
          have := i64_or_nat (y * 256) u (by omega) (by omega)
          rw [Nat.mul_comm, show (256 : Nat) = 2 ^ 8 from rfl, ← Nat.two_pow_add_eq_or_of_lt h4] at this
          rw [show (y : Int) * 256 = ((2 ^ 8 * y : Nat) : Int) by omega, this]
          omega
        rw [e2, ← hz.out]
        refine ⟨⟨k + 1, by omega, rfl, rfl, trivial⟩, by simp [intOf]; omega⟩
      · have hk4 : k = 1 := by omega
        replace hk4 := Lib.hid hk4
        have hs := (h.drop hn)
        have hsl : ∀ W, (Instr.slice 27 (.slice (some ⟨b, o, none⟩) n c) (some (.int .i64 2)) none none).run Try.prog W = .ok (.slice (if c = 2 then some ⟨b, o, none⟩ else (some (⟨b, o, none⟩ : Addr)).map (·.add 2)) (n - 2) (c - 2)) W := fun W => run_sub (P := Try.prog) Try.underlying27 hi'.out hz1 (some ⟨b, o, none⟩) n c 2 hn W
        generalize (if c = 2 then some (⟨b, o, none⟩ : Addr) else (some (⟨b, o, none⟩ : Addr)).map (·.add 2)) = a4 at hs hsl
        have hnz : 0 < n := by omega
        go_wp2_with fail
        go_region_held3 (fun W => W.cell? ⟨b, o, none⟩ = some (.int .u8 (x.toNat : Int))) (first | exact g0 | exact g0') ((go_at_call 32; refine (bclone_any hs.drew).mono ?_; rintro e w' ⟨v, rfl, ho, hb'⟩; have g0' := (hb'.cell (p := ⟨b, o, none⟩) (World.block_lt_of_cell? _ _ g0)).trans g0))
        go_wp2_with fail
        (try simp only [Exit.inBlock, Exit.then])
        refine bodyPost_ret (results_tmp5 rfl _ _ _) rfl ?_
        have hke := hk4.out
        subst hke
        refine ⟨v, ?_, ho, below_of_drew hb'⟩
        refine congrArg Ending.returned (congrArg Value.tuple ?_)
        rw [bne_cast, bne_cast]
        rfl
theorem mhead_short {w : World} {a : Option Addr} {n c : Nat} {l : List UInt8} (short : Bool) (h : Bts w a n c l) (hn : n < hdSize short) :
    Calls Try.prog 18 #[.slice a n c, .bool short] w fun e w' => e = .returned (.tuple #[.int .i64 0, .bool false, .bool false, .slice none 0 0, .int .i64 2]) ∧ w = w' := by
  have hc := h.cap
  have hmo := h.most
  cases short
  · have hn : (n : Int) < 4 := by have : n < 4 := hn; omega
    go_enter Try.func18, Try.ntmps18
    go_wp2_with fail
    (try simp only [Exit.inBlock, Exit.then])
    refine bodyPost_ret (results_tmp5 rfl _ _ _) rfl ?_
    exact ⟨rfl, rfl⟩
  · have hn : (n : Int) < 2 := by have : n < 2 := hn; omega
    go_enter Try.func18, Try.ntmps18
    go_wp2_with fail
    (try simp only [Exit.inBlock, Exit.then])
    refine bodyPost_ret (results_tmp5 rfl _ _ _) rfl ?_
    exact ⟨rfl, rfl⟩
theorem mhead_bad {w : World} {a : Option Addr} {n c : Nat} {l : List UInt8} (short : Bool) (h : Bts w a n c l) (hn : hdSize short ≤ n) (hbad : (l.getD 0 0).toNat &&& hdMask short ≠ 0) :
    Calls Try.prog 18 #[.slice a n c, .bool short] w fun e w' => e = .returned (.tuple #[.int .i64 0, .bool false, .bool false, .slice none 0 0, .int .i64 4]) ∧ w = w' := by
  have hc := h.cap
  have hmo := h.most
  have hx := (l.getD 0 0).toNat_lt
  have hw : wrap64 ((l.getD 0 0).toNat : Int) = ((l.getD 0 0).toNat : Int) := wrap64_in _ (by omega)
  cases short
  · have hn : 4 ≤ n := hn
    have hand : bits .and .i64 ((l.getD 0 0).toNat : Int) 63 = (((l.getD 0 0).toNat &&& 63 : Nat) : Int) := i64_and_nat (l.getD 0 0).toNat 63 (by omega) (by decide)
    have hbad : (l.getD 0 0).toNat &&& 63 ≠ 0 := hbad
    obtain ⟨b, o, rfl, hcl⟩ := h.addr (by omega)
    have g0 := hcl 0 (by omega)
    simp only [Nat.add_zero] at g0
    generalize (l.getD 0 0).toNat &&& 63 = z at hand hbad
    generalize l.getD 0 0 = x at g0 hand hw ⊢
    go_enter Try.func18, Try.ntmps18
    go_wp2_with fail
    (try simp only [Exit.inBlock, Exit.then])
    refine bodyPost_ret (results_tmp5 rfl _ _ _) rfl ?_
    exact ⟨rfl, rfl⟩
  · have hn : 2 ≤ n := hn
    have hand : bits .and .i64 ((l.getD 0 0).toNat : Int) 48 = (((l.getD 0 0).toNat &&& 48 : Nat) : Int) := i64_and_nat (l.getD 0 0).toNat 48 (by omega) (by decide)
    have hbad : (l.getD 0 0).toNat &&& 48 ≠ 0 := hbad
    obtain ⟨b, o, rfl, hcl⟩ := h.addr (by omega)
    have g0 := hcl 0 (by omega)
    simp only [Nat.add_zero] at g0
    generalize (l.getD 0 0).toNat &&& 48 = z at hand hbad
    generalize l.getD 0 0 = x at g0 hand hw ⊢
    go_enter Try.func18, Try.ntmps18
    go_wp2_with fail
    (try simp only [Exit.inBlock, Exit.then])
    refine bodyPost_ret (results_tmp5 rfl _ _ _) rfl ?_
    exact ⟨rfl, rfl⟩
/-- what a head tells -/
structure Hd where
  n : Nat
  first : Bool
  last : Bool
  body : List UInt8
  err : Nat
def headP (l : List UInt8) (short : Bool) : Hd :=
  if l.length < hdSize short then ⟨0, false, false, [], 2⟩
  else if (l.getD 0 0).toNat &&& hdMask short ≠ 0 then ⟨0, false, false, [], 4⟩
  else ⟨hdNum l (hdSize short - 1), (l.getD 0 0).toNat &&& 128 != 0, (l.getD 0 0).toNat &&& 64 != 0, l.drop (hdSize short), 0⟩
/-- as a result -/
def Hd.res (d : Hd) (v : Value) : Value := .tuple #[.int .i64 (d.n : Nat), .bool d.first, .bool d.last, v, .int .i64 (d.err : Nat)]
theorem mhead_any {w : World} {a : Option Addr} {n c : Nat} {l : List UInt8} (short : Bool) (h : Bts w a n c l) :
    Calls Try.prog 18 #[.slice a n c, .bool short] w fun e w' => ∃ v, e = .returned ((headP l short).res v) ∧
      w'.ownsRow w.heap.size 5 1 v (headP l short).body.length ((headP l short).body.map bv) ∧ Below w.heap.size w w' := by
  have hl := h.len
  unfold headP
  by_cases h1 : l.length < hdSize short
  · rw [if_pos h1]
    refine (mhead_short short h (by omega)).mono ?_
    rintro e w' ⟨rfl, rfl⟩
    exact ⟨_, rfl, World.ownsRow_nil _ _ _ _, Below.refl _ _⟩
  · rw [if_neg h1]
    by_cases h2 : (l.getD 0 0).toNat &&& hdMask short = 0
    · rw [if_neg (by simpa using h2)]
      refine (mhead_ok short h (by omega) h2).mono ?_
      rintro e w' ⟨v, rfl, ho, hb⟩
      exact ⟨v, rfl, own_congr ho (by simp [hl]) rfl, hb⟩
    · rw [if_pos h2]
      refine (mhead_bad short h (by omega) h2).mono ?_
      rintro e w' ⟨rfl, rfl⟩
      exact ⟨_, rfl, World.ownsRow_nil _ _ _ _, Below.refl _ _⟩
end Go.Proofs.Ytglmlhbchfgliaa
