/-
  The walks of Peek, Align and Bytes of a reader of bits. Conditions: it is one that was made.
-/
import Derived.Test.YtdfoimgckahjpaaBitsRd
namespace Go.Proofs.Ytdfoimgckahjpaa
open Go.RowKit
theorem peek_no {b : Nat} {a : Option Addr} {c : Nat} {high : Bool} {l : List UInt8} {n : Nat} {w : World} (h : Rd w b a c high l n) (N : Int) (hN : N < 0 ∨ 32 < N) :
    Calls Try.prog 27 #[.pointer (some ⟨b, 0, none⟩), .int .i64 N] w fun e w' => e = .returned (.tuple #[.int .i64 0, .int .i64 0]) ∧ w = w' := by
  have _ := h
  by_cases h1 : N < 0
  · go_enter Try.func27, Try.ntmps27
    go_wp2_with fail
    go_ret2
    exact ⟨rfl, rfl⟩
  · have h2 : 32 < N := by omega
    go_enter Try.func27, Try.ntmps27
    go_wp2_with fail
    go_ret2
    exact ⟨rfl, rfl⟩

set_option maxHeartbeats 400000 in
theorem peek_yes {b : Nat} {a : Option Addr} {c : Nat} {high : Bool} {l : List UInt8} {n : Nat} {w : World} (h : Rd w b a c high l n) (k : Nat) (h32 : k ≤ 32) (m : Nat) (hm : m = min k (8 * l.length - n)) :
    Calls Try.prog 27 #[.pointer (some ⟨b, 0, none⟩), .int .i64 (k : Int)] w fun e w' => e = .returned (.tuple #[.int .i64 ((num high (fun j => bitAt high l (n + j)) k m : Nat) : Int), .int .i64 (m : Int)]) ∧ Below w.heap.size w w' := by
  have hle := h.le
  have hm1 : n + m ≤ 8 * l.length := by omega
  have hm2 : m ≤ k := by omega
  generalize hx : (8 * l.length - n : Nat) = x at hm
  have hmin : ∀ w, (Builtin.min_ #[3, 3] 3 #[.int .i64 k, .int .i64 x]).run Try.prog w = .ok (.int .i64 m) w := by
    intro w
    rw [hm]
    exact run_min2 w _ _ k x
  have hlf := left_any h
  rw [hx] at hlf
  have hlf' := Lib.hid hlf; clear hlf
  clear hx hm hle
  go_enter Try.func27, Try.ntmps27
  go_wp2_with (go_at_call 50; refine h.made.mono ?_; rintro e w' ⟨rfl, rfl⟩)
  refine hlf'.out.mono ?_
  rintro e w' ⟨rfl, q, rfl⟩
  have h1 := h.below (below_drewN (Below.refl w.heap.size w) q) (Nat.le_refl _)
  have hb := below_drewN (Below.refl w.heap.size w) q
  clear hlf'
  generalize w.drewN q = w1 at *
  go_wp2_with fail
  refine (number_any h1 m k hm1 hm2 h32).mono ?_
  rintro e w2 ⟨rfl, hb2⟩
  have hb3 := hb.trans (hb2.mono hb.size)
  go_wp2_with fail
  go_ret2
  exact ⟨rfl, hb3⟩

theorem align_any {b : Nat} {a : Option Addr} {c : Nat} {high : Bool} {l : List UInt8} {n : Nat} {w : World} (h : Rd w b a c high l n) :
    Calls Try.prog 37 #[.pointer (some ⟨b, 0, none⟩)] w fun e w' => e = .returned (.tuple #[]) ∧ Rd w' b a c high l ((n + 7) / 8 * 8) ∧ w.grownBy w' (some b) := by
  have hle := h.le
  have hf := h.few
  have g1 := h.blk.cell 1
  simp at g1
  have f1 := h.blk.free 1 none
  have hset := h.set ((n + 7) / 8 * 8) (by omega)
  have gset := grown_set (w := w) (b := b) (o := 1) (v := .int .i64 (((n + 7) / 8 * 8 : Nat) : Int))
  go_enter Try.func37, Try.ntmps37
  go_wp2_with (go_at_call 50; refine h.made.mono ?_; rintro e w' ⟨rfl, rfl⟩)
  go_end0
  exact ⟨rfl, hset, gset⟩

theorem bytes_no {b : Nat} {a : Option Addr} {c : Nat} {high : Bool} {l : List UInt8} {n : Nat} {w : World} (h : Rd w b a c high l n) (N : Int) (hN : N < 0 ∨ ((l.length - (n + 7) / 8 : Nat) : Int) < N) :
    Calls Try.prog 39 #[.pointer (some ⟨b, 0, none⟩), .int .i64 N] w fun e w' => e = .returned (.tuple #[.slice none 0 0, .bool false]) ∧ Rd w' b a c high l ((n + 7) / 8 * 8) ∧ w.grownBy w' (some b) := by
  have hle := h.le
  have hf := h.few
  by_cases h1 : N < 0
  · go_enter Try.func39, Try.ntmps39
    go_wp2_with (go_at_call 37; refine (align_any h).mono ?_; rintro e w1 ⟨rfl, h1, hg1⟩)
    go_ret2
    exact ⟨rfl, h1, hg1⟩
  · have h2 : ((l.length - (n + 7) / 8 : Nat) : Int) < N := by omega
    generalize hx : (8 * l.length - (n + 7) / 8 * 8 : Nat) = x
    have hx2 : (x : Int) / 8 < N := by omega
    go_enter Try.func39, Try.ntmps39
    go_wp2_with (go_at_call 37; refine (align_any h).mono ?_; rintro e w1 ⟨rfl, hR, hg1⟩)
    have hlf := left_any hR
    rw [hx] at hlf
    refine hlf.mono ?_
    rintro e w2 ⟨rfl, m, rfl⟩
    have h3 := hR.below (below_drewN (Below.refl _ _) m) (Nat.le_refl _)
    have hg3 := grown_trans hg1 (grown_drewN _ m (some b))
    go_wp2_with fail
    go_ret2
    exact ⟨rfl, h3, hg3⟩

/-- what Bytes answers -/
def GotBytes (w : World) (b : Nat) (a : Option Addr) (c : Nat) (high : Bool) (l : List UInt8) (q k : Nat) (e : Ending) (w' : World) : Prop :=
  ∃ v, e = .returned (.tuple #[v, .bool true]) ∧ w'.ownsRow w.heap.size 5 1 v k (((l.take (q + k)).drop q).map bv) ∧ Rd w' b a c high l (8 * (q + k)) ∧ w.grownBy w' (some b)
set_option maxRecDepth 20000 in
set_option maxHeartbeats 400000 in
theorem bytes_yes {b : Nat} {a : Option Addr} {c : Nat} {high : Bool} {l : List UInt8} {n : Nat} {w : World} (h : Rd w b a c high l n) (k q : Nat) (hq : (n + 7) / 8 = q) (hk : q + k ≤ l.length) :
    Calls Try.prog 39 #[.pointer (some ⟨b, 0, none⟩), .int .i64 (k : Int)] w (GotBytes w b a c high l q k) := by
  have hle := h.le
  have hf := h.few
  have hcap := h.bts.cap
  obtain ⟨i0, hi, hz0, hz1, hz2⟩ := info_parts Try.info5
  have hsl := fun w => run_slice (P := Try.prog) Try.underlying22 hi hz1 a l.length c q (q + k) (by omega) (by omega) w
  rw [Int.natCast_add, show q + k - q = k by omega] at hsl
  have hi' := Lib.hid hi; clear hi
  have hsubb := fun (W : World) (hW : Bts W a l.length c l) => hW.sub q (q + k) (by omega) hk
  rw [show q + k - q = k by omega] at hsubb
  generalize (if c = q then a else a.map (·.add q)) = a3 at *
  have hsub' := Lib.hid hsubb; clear hsubb
  generalize hx : (8 * l.length - q * 8 : Nat) = x
  have hx2 : ¬ (x : Int) / 8 < (k : Int) := by omega
  go_enter Try.func39, Try.ntmps39
  go_wp2_with (go_at_call 37; refine (align_any h).mono ?_; rintro e w1 ⟨rfl, hR, hg1⟩)
  rw [hq] at hR
  have hlf := left_any hR
  rw [hx] at hlf
  refine hlf.mono ?_
  rintro e w2 ⟨rfl, m, rfl⟩
  have h3 := hR.below (below_drewN (Below.refl _ _) m) (Nat.le_refl _)
  have hg3 := grown_trans hg1 (grown_drewN _ m (some b))
  clear hlf hR hg1
  generalize w1.drewN m = w3 at *
  go_wp2_with fail
  refine h3.made.mono ?_
  rintro e w' ⟨rfl, rfl⟩
  have g1 := h3.blk.cell 1
  simp at g1
  have f1 := h3.blk.free 1 none
  clear hx hq h
  have hset := h3.set (8 * (q + k)) (by omega)
  have gset := grown_trans hg3 (grown_set (w := w3) (b := b) (o := 1) (v := .int .i64 ((8 * (q + k) : Nat) : Int)))
  have hv : (((8 * (q + k) : Nat) : Int)) = (q : Int) * 8 + 8 * (k : Int) := by omega
  rw [hv] at hset gset
  have g4 := hset.blk.cell 0
  simp at g4
  have hsub := hsub'.out _ hset.bts
  have hge : w.heap.size ≤ w3.heap.size := hg3.size
  clear h3 hg3
  go_wp2_with (at_builtin; go_must (refine wp_appB rfl _ _ 22 rfl w.heap.size 5 i0 _ 1 Try.underlying22 hi'.out hz0 hz1 hz2 rfl _ 0 [] rfl (World.ownsRow_nil _ _ _ _) a3 k (c - q) _ rfl hsub ?c3 ?c4 ?c5 ?_))
  case c3 => unfold maxLen; omega
  case c4 => omega
  case c5 => simp; omega
  intro v5 w5 ho5 hg5
  have ho6 := own_congr (n' := k) (xs' := ((l.take (q + k)).drop q).map bv) ho5 (by omega) (by simp)
  rw [show (Value.slice none 0 0).ownBlock = none from rfl] at hg5
  have hg6 : w.grownBy w5 (some b) := grown_trans gset (grown_below (below_of_none hg5) _)
  have hR5 := hset.below (below_of_none hg5) (Nat.le_refl _)
  clear ho5 hg5 hset gset g4 hsub
  go_wp2_with fail
  go_ret2
  exact ⟨v5, rfl, ho6, (by rw [show 8 * (q + k) = 8 * (q + k) from rfl]; exact hR5), hg6⟩
end Go.Proofs.Ytdfoimgckahjpaa
