/-
  The walks of a reader of bits. Conditions: it is one that was made.
-/
import Derived.Test.YtdfoimgckahjpaaBitsAt
namespace Go.Proofs.Ytdfoimgckahjpaa
open Go.RowKit
/-- a reader: its block, its bytes, its place -/
structure Rd (w : World) (b : Nat) (a : Option Addr) (c : Nat) (high : Bool) (l : List UInt8) (n : Nat) : Prop where
  blk : Blk w b #[.slice a l.length c, .int .i64 (n : Int), placeV high] 80
  bts : Bts w a l.length c l
  ne : ∀ x, a = some x → x.block ≠ b
  le : n ≤ 8 * l.length
  few : l.length ≤ 1099511627776
theorem Rd.lt {w : World} {b : Nat} {a : Option Addr} {c : Nat} {high : Bool} {l : List UInt8} {n : Nat} (h : Rd w b a c high l n) : b < w.heap.size := h.blk.lt
theorem Rd.below {w w' : World} {b : Nat} {a : Option Addr} {c : Nat} {high : Bool} {l : List UInt8} {n B : Nat} (h : Rd w b a c high l n) (hb : Below B w w') (hB : w.heap.size ≤ B) : Rd w' b a c high l n :=
  ⟨h.blk.below hb (Nat.lt_of_lt_of_le h.lt hB), h.bts.below hb hB, h.ne, h.le, h.few⟩
theorem Rd.grown {w w' : World} {b : Nat} {a : Option Addr} {c : Nat} {high : Bool} {l : List UInt8} {n k : Nat} (h : Rd w b a c high l n) (hg : w.grownBy w' (some k)) (hb : b ≠ k) (ha : ∀ x, a = some x → x.block ≠ k) : Rd w' b a c high l n :=
  ⟨h.blk.grown hg (by simpa using hb), h.bts.grown hg (fun _ => ha), h.ne, h.le, h.few⟩
theorem Rd.made {w : World} {b : Nat} {a : Option Addr} {c : Nat} {high : Bool} {l : List UInt8} {n : Nat} (h : Rd w b a c high l n) :
    Calls Try.prog 50 #[.pointer (some ⟨b, 0, none⟩)] w fun e w' => e = .returned (.bool true) ∧ w = w' := made_r b _ high w h.blk rfl

theorem left_any {b : Nat} {a : Option Addr} {c : Nat} {high : Bool} {l : List UInt8} {n : Nat} {w : World} (h : Rd w b a c high l n) :
    Calls Try.prog 18 #[.pointer (some ⟨b, 0, none⟩)] w fun e w' => e = .returned (.int .i64 ((8 * l.length - n : Nat) : Int)) ∧ ∃ m, w' = w.drewN m := by
  have g0 := h.blk.cell 0
  have g1 := h.blk.cell 1
  have hl := h.le
  have hf := h.few
  simp at g0 g1
  go_enter Try.func18, Try.ntmps18
  go_wp2_with (go_at_call 50; refine h.made.mono ?_; rintro e w' ⟨rfl, rfl⟩)
  go_quiet (fail)
  go_wp2
  go_ret
  exact ⟨ret_int (by omega), nq, rfl⟩

set_option maxHeartbeats 1000000 in
theorem number_any {b : Nat} {a : Option Addr} {c : Nat} {high : Bool} {l : List UInt8} {n : Nat} {w : World} (h : Rd w b a c high l n) (m size : Nat) (hm : n + m ≤ 8 * l.length) (hs : m ≤ size) (h32 : size ≤ 32) :
    Calls Try.prog 51 #[.pointer (some ⟨b, 0, none⟩), .int .i64 (m : Int), .int .i64 (size : Int)] w fun e w' => e = .returned (.int .i64 ((num high (fun k => bitAt high l (n + k)) size m : Nat) : Int)) ∧ Below w.heap.size w w' := by
  have hl := h.le
  have hf := h.few
  go_enter Try.func51, Try.ntmps51
  go_wp2_with fail
  go_loopw [7, 12] (fun x i wr => ∃ k : Nat, k ≤ m ∧ i = .int .i64 k ∧ x = .int .i64 ((num high (fun k => bitAt high l (n + k)) size k : Nat) : Int) ∧ Below w.heap.size w wr) (fun _ i _ => m - (intOf i).toNat)
  case atStart => exact ⟨0, by omega, rfl, rfl, Below.refl _ _⟩
  case round =>
    obtain ⟨k, hk, rfl, rfl, hb⟩ := hrel
    by_cases hlt : k < m
    · have h' := h.below hb (Nat.le_refl _)
      have g0 := h'.blk.cell 0
      have g1 := h'.blk.cell 1
      have g2 := h'.blk.cell 2
      simp at g0 g1 g2
      unfold placeV at g2
      obtain ⟨b1, o1, rfl, hc1⟩ := h'.bts.addr (by omega)
      have g3 := hc1 ((n + k) / 8) (by omega)
      clear hc1
      have hstep : num high (fun k => bitAt high l (n + k)) size (k + 1) = num high (fun k => bitAt high l (n + k)) size k ||| (((l.getD ((n + k) / 8) 0).toNat >>> plc high ((n + k) % 8) 8 &&& 1) <<< plc high k size) := by
        rw [num, bit_and]; rfl
      have hlt2 := num_lt high (fun k => bitAt high l (n + k)) size k (by omega)
      have G := fun (W : World) (hW : Below wr.heap.size wr W) => And.intro ((h'.blk.below hW h'.blk.lt).cell 0) (And.intro ((h'.blk.below hW h'.blk.lt).cell 1) (And.intro ((h'.blk.below hW h'.blk.lt).cell 2) (h'.bts.get hW (k := (n + k) / 8) (by omega))))
      simp only [List.getElem?_toArray, List.getElem?_cons_zero, List.getElem?_cons_succ] at G
      have G' := Lib.hid G; clear G
      have d1 : IntKind.i64.wrap (((n : Int) + (k : Int)).tdiv 8) = (((n + k) / 8 : Nat) : Int) := by
        rw [IntWalk.i64_quo _ _ (by omega)]; omega
      have d2 : ((n : Int) + (k : Int)).tmod 8 = (((n + k) % 8 : Nat) : Int) := by rw [Int.tmod_eq_emod_of_nonneg (by omega)]; omega
      have hq : (n + k) / 8 < l.length := by omega
      have hr : (n + k) % 8 < 8 := by omega
      have atk := fun (W : World) => at_any high k size W (by omega) (by omega)
      have atk' := Lib.hid atk; clear atk
      have hpk := plc_lt (high := high) (show k < size by omega)
      generalize (n + k) / 8 = q at *
      generalize (n + k) % 8 = r at *
      have at8 := fun (W : World) => at_any high r 8 W hr (by decide)
      have at8' := Lib.hid at8; clear at8
      have hp8 := plc_lt (high := high) hr
      generalize plc high r 8 = p at *
      generalize plc high k size = p2 at *
      generalize l.getD q 0 = X at *
      have hX1 : IntKind.i64.wrap (X.toNat : Int) = (X.toNat : Int) := IntWalk.i64_in _ (by have := X.toNat_lt; omega)
      have hX2 := i64_bit X.toNat p (by have := X.toNat_lt; omega)
      have hbl : (X.toNat >>> p &&& 1) ≤ 1 := Nat.and_le_right
      generalize (X.toNat >>> p &&& 1) = B at *
      have hqI : (q : Int) < (l.length : Int) := by omega
      go_wp2_with fail
      go_region_held3 (fun W => W.cell? ⟨b, 0, none⟩ = some (.slice (some ⟨b1, o1, none⟩) l.length c) ∧ W.cell? ⟨b, 1, none⟩ = some (.int .i64 (n : Int)) ∧ W.cell? ⟨b, 2, none⟩ = some (.func (.func 49) #[.agg #[.bool high]] #[]) ∧ W.cell? ⟨b1, o1 + q, none⟩ = some (.int .u8 (X.toNat : Int))) (first | exact ⟨g0, g1, g2, g3⟩ | exact G'.out _ hW') (first | (go_at_call 49; refine (at8'.out _).mono ?_; rintro e w' ⟨rfl, hb'⟩; have hW' : Below wr.heap.size wr w' := (by first | exact hb' | exact below_of_drew hb')))
      clear at8' hX1 hX2 d1 d2 g0 g1 g2 g3
      have hbw := hb.trans (hW'.mono hb.size)
      obtain ⟨g0, g1, g2, g3⟩ := G'.out _ hW'
      go_wp2_with (go_at_call 49; refine (atk'.out _).mono ?_; rintro e w'' ⟨rfl, hb''⟩)
      go_roundw
      case rel =>
        refine ⟨k + 1, by omega, by go_num, ?_, hbw.trans (hb''.mono hbw.size)⟩
        rw [hstep, or_shl _ _ _ _ hbl hpk h32 hlt2]
      case measure => simp [intOf]; omega
    · obtain rfl : k = m := by omega
      go_wp2
      go_ret
      exact ⟨rfl, hb⟩

theorem Rd.set {w : World} {b : Nat} {a : Option Addr} {c : Nat} {high : Bool} {l : List UInt8} {n : Nat} (h : Rd w b a c high l n) (m : Nat) (hm : m ≤ 8 * l.length) : Rd (w.setCell ⟨b, 1, none⟩ (.int .i64 (m : Int))) b a c high l m :=
  ⟨h.blk.set 1 _, h.bts.grown grown_set (fun _ => h.ne), h.ne, hm, h.few⟩

theorem take_no {b : Nat} {a : Option Addr} {c : Nat} {high : Bool} {l : List UInt8} {n : Nat} {w : World} (h : Rd w b a c high l n) (N : Int) (hN : N < 0 ∨ 32 < N ∨ ((8 * l.length - n : Nat) : Int) < N) :
    Calls Try.prog 17 #[.pointer (some ⟨b, 0, none⟩), .int .i64 N] w fun e w' => e = .returned (.tuple #[.int .i64 0, .bool false]) ∧ ∃ m, w' = w.drewN m := by
  by_cases h1 : N < 0
  · go_enter Try.func17, Try.ntmps17
    go_wp2_with fail
    go_ret2
    exact ⟨rfl, 0, rfl⟩
  · by_cases h2 : 32 < N
    · go_enter Try.func17, Try.ntmps17
      go_wp2_with fail
      go_ret2
      exact ⟨rfl, 0, rfl⟩
    · have h3 : ((8 * l.length - n : Nat) : Int) < N := by omega
      generalize hx : (8 * l.length - n : Nat) = x at h3
      have hlf := left_any h
      rw [hx] at hlf
      have hlf' := Lib.hid hlf; clear hlf
      go_enter Try.func17, Try.ntmps17
      go_wp2_with (go_at_call 18; refine hlf'.out.mono ?_; rintro e w' ⟨rfl, m, rfl⟩)
      go_ret2
      exact ⟨rfl, m, rfl⟩

set_option maxHeartbeats 400000 in
theorem take_yes {b : Nat} {a : Option Addr} {c : Nat} {high : Bool} {l : List UInt8} {n : Nat} {w : World} (h : Rd w b a c high l n) (k : Nat) (h32 : k ≤ 32) (hk : n + k ≤ 8 * l.length) :
    Calls Try.prog 17 #[.pointer (some ⟨b, 0, none⟩), .int .i64 (k : Int)] w fun e w' => e = .returned (.tuple #[.int .i64 ((num high (fun j => bitAt high l (n + j)) k k : Nat) : Int), .bool true]) ∧ Rd w' b a c high l (n + k) ∧ w.grownBy w' (some b) := by
  have hf := h.few
  generalize hx : (8 * l.length - n : Nat) = x
  have h3 : k ≤ x := by omega
  have hlf := left_any h
  rw [hx] at hlf
  have hlf' := Lib.hid hlf; clear hlf
  clear hx
  go_enter Try.func17, Try.ntmps17
  go_wp2_with (go_at_call 18; refine hlf'.out.mono ?_; rintro e w' ⟨rfl, m, rfl⟩)
  have h1 := h.below (below_drewN (Below.refl w.heap.size w) m) (Nat.le_refl _)
  have hg1 := grown_drewN w m (some b)
  clear hlf'
  generalize w.drewN m = w1 at *
  refine h1.made.mono ?_
  rintro e w' ⟨rfl, rfl⟩
  go_wp2_with fail
  refine (number_any h1 k k hk (Nat.le_refl _) h32).mono ?_
  rintro e w2 ⟨rfl, hb⟩
  have h2 := h1.below hb (Nat.le_refl _)
  have hg2 := grown_trans hg1 (grown_below hb (some b))
  clear hb h1 hg1
  have g1 := h2.blk.cell 1
  simp at g1
  have hset := h2.set (n + k) hk
  have gset := grown_trans hg2 (grown_set (w := w2) (b := b) (o := 1) (v := .int .i64 ((n + k : Nat) : Int)))
  have f1 := h2.blk.free 1 none
  clear h2 hg2
  go_wp2_with fail
  go_ret2
  rw [Int.natCast_add] at hset gset
  exact ⟨rfl, hset, gset⟩

/-- what NewReader answers -/
def MadeRd (w : World) (high : Bool) (l : List UInt8) (e : Ending) (w' : World) : Prop :=
  ∃ b a' c', e = .returned (.pointer (some ⟨b, 0, none⟩)) ∧ Rd w' b a' c' high l 0 ∧ w.heap.size ≤ b ∧ (∀ x, a' = some x → w.heap.size ≤ x.block) ∧ Below w.heap.size w w'
set_option maxHeartbeats 400000 in
theorem new_reader (a : Option Addr) (n c : Nat) (l : List UInt8) (high : Bool) (w : World) (hB : Bts w a n c l) (hn : n ≤ 1099511627776) :
    Calls Try.prog 16 #[.slice a n c, .bool high] w (MadeRd w high l) := by
  have hmf : ∀ (fn : Fn) (first cap : Array Value) (w : World), (Instr.makeFunc fn first cap).run Try.prog w = .ok (.func fn first cap) w := fun _ _ _ _ => rfl
  have hl := hB.len
  obtain ⟨i0, hi, hz0, hz1, hz2⟩ := info_parts Try.info5
  have hi' := Lib.hid hi; clear hi
  go_enter Try.func16, Try.ntmps16
  go_wp2_with (at_builtin; go_must (refine wp_appB rfl _ _ 22 rfl w.heap.size 5 i0 _ 1 Try.underlying22 hi'.out hz0 hz1 hz2 rfl _ 0 [] rfl (World.ownsRow_nil _ _ _ _) a n c l rfl hB ?c3 ?c4 (Nat.le_refl _) ?_))
  case c3 => unfold maxLen; omega
  case c4 => omega
  intro v1 w1 ho hg
  have hb := below_grown (Below.refl w.heap.size w) (World.ownsRow_nil w w.heap.size 5 1) hg (Nat.le_refl _)
  clear hg
  obtain ⟨a1, c1, rfl, hB1⟩ := Bts.of_own (l := l) (own_congr (n' := n) ho (by omega) (by simp)) (by omega)
  have hge := own_ge ho
  have hsz := hb.size
  obtain rfl : n = l.length := by omega
  go_wp2_with fail
  go_ret
  refine ⟨w1.heap.size, a1, c1, rfl, ⟨Blk.new w1 _ _, hB1.below (below_alloc (Below.refl _ _) _ (Nat.le_refl _)) (Nat.le_refl _), fun x hx => by have := (hge x hx).2; omega, by omega, hn⟩, hsz, fun x hx => (hge x hx).1, below_alloc hb _ (Nat.le_refl _)⟩
end Go.Proofs.Ytdfoimgckahjpaa
