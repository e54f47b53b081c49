/-
  The ring of numbers: plainly, and the walks of ring, from and its closure. No conditions.
-/
import Derived.Test.YtglmlhbchfgliaaLib
import Derived.Test.YtglmlhbchfgliaaFrame
namespace Go.Proofs.Ytglmlhbchfgliaa
open Go.RowKit
/-- how many numbers there are -/
def rgN (short : Bool) : Nat := if short then 4096 else 16777216
theorem rgN_two (short : Bool) : rgN short = 4096 ∨ rgN short = 16777216 := by cases short <;> simp [rgN]
/-- how far a number is ahead of another one; -1: it is behind -/
def aheadI (R base n : Nat) : Int := if R / 2 ≤ (n + R - base) % R then -1 else (((n + R - base) % R : Nat) : Int)
theorem ring_any (short : Bool) (w : World) :
    Calls Try.prog 27 #[.bool short] w fun e w' => e = .returned (.int .i64 (rgN short : Nat)) ∧ w = w' := by
  cases short
  · go_enter Try.func27, Try.ntmps27
    go_wp2_with fail
    go_ret
    exact ⟨rfl, rfl⟩
  · go_enter Try.func27, Try.ntmps27
    go_wp2_with fail
    go_ret
    exact ⟨rfl, rfl⟩
theorem rring_any (short : Bool) (w : World) :
    Calls Try.prog 31 #[.bool short] w fun e w' => e = .returned (.int .i64 (rgN short : Nat)) ∧ w = w' := by
  cases short
  · go_enter Try.func31, Try.ntmps31
    go_wp2_with fail
    go_ret
    exact ⟨rfl, rfl⟩
  · go_enter Try.func31, Try.ntmps31
    go_wp2_with fail
    go_ret
    exact ⟨rfl, rfl⟩
/-- the closure over a base and a ring -/
def fromV (p q : Nat) : Value := .func (.func 37) #[] #[.pointer (some ⟨p, 0, none⟩), .pointer (some ⟨q, 0, none⟩)]
/-- its two cells -/
structure From (w : World) (p q R base : Nat) : Prop where
  base : w.cell? ⟨p, 0, none⟩ = some (.int .i64 (base : Nat))
  ring : w.cell? ⟨q, 0, none⟩ = some (.int .i64 (R : Nat))
theorem From.below {w w' : World} {p q R base : Nat} (h : From w p q R base) (hb : Below w.heap.size w w') : From w' p q R base :=
  ⟨(hb.cell (p := ⟨p, 0, none⟩) (World.block_lt_of_cell? _ _ h.base)).trans h.base, (hb.cell (p := ⟨q, 0, none⟩) (World.block_lt_of_cell? _ _ h.ring)).trans h.ring⟩
theorem from_any {b : Nat} {short : Bool} {w : World} (base : Nat) (h : w.cell? ⟨b, 2, none⟩ = some (.bool short)) :
    Calls Try.prog 29 #[.pointer (some ⟨b, 0, none⟩), .int .i64 (base : Nat)] w fun e w' =>
      e = .returned (fromV w.heap.size (w.heap.size + 1)) ∧ From w' w.heap.size (w.heap.size + 1) (rgN short) base ∧ Below w.heap.size w w' := by
  have hmf : ∀ (fn : Fn) (first cap : Array Value) (w : World), (Instr.makeFunc fn first cap).run Try.prog w = .ok (.func fn first cap) w := fun _ _ _ _ => rfl
  have hlt : b < w.heap.size := World.block_lt_of_cell? _ _ h
  have hb1 := below_alloc (Below.refl w.heap.size w) (.cells #[.int .i64 (base : Nat)] 3) (Nat.le_refl _)
  have h1 := (hb1.cell (p := ⟨b, 2, none⟩) hlt).trans h
  go_enter Try.func29, Try.ntmps29
  go_wp2_with (go_at_call 27; refine (ring_any short _).mono ?_; rintro e w' ⟨rfl, rfl⟩)
  go_ret
  have n2 := Blk.new (w.alloc (.cells #[.int .i64 (base : Nat)] 3)) #[.int .i64 (rgN short : Nat)] 3
  rw [alloc_size] at n2
  have n1 := (Blk.new w #[.int .i64 (base : Nat)] 3).below (below_alloc (Below.refl (w.alloc (.cells #[.int .i64 (base : Nat)] 3)).heap.size _) (.cells #[.int .i64 (rgN short : Nat)] 3) (Nat.le_refl _)) (Blk.new w _ _).lt
  exact ⟨rfl, ⟨by rw [n1.cell]; rfl, by rw [n2.cell]; rfl⟩, below_alloc hb1 _ (Nat.le_refl _)⟩
theorem fromc_any {p q R base n : Nat} {w : World} (h : From w p q R base) (hR : R = 4096 ∨ R = 16777216) (hb : base < R) (hn : n < R) :
    Calls Try.prog 37 #[.int .i64 (n : Nat), .pointer (some ⟨p, 0, none⟩), .pointer (some ⟨q, 0, none⟩)] w fun e w' => e = .returned (.int .i64 (aheadI R base n)) ∧ w = w' := by
  have c1 := h.base
  have c2 := h.ring
  have hRb : R ≤ 16777216 := by omega
  have hRp : 0 < R := by omega
  have hsub : (n : Int) - (base : Int) + (R : Int) = ((n + R - base : Nat) : Int) := by omega
  have hrem : ((n + R - base : Nat) : Int).tmod (R : Int) = (((n + R - base) % R : Nat) : Int) := by rw [Int.tmod_eq_emod_of_nonneg (by omega)]; omega
  have hdv : (R : Int).tdiv 2 = ((R / 2 : Nat) : Int) := by rw [Int.tdiv_eq_ediv_of_nonneg (by omega)]; omega
  have hRz : ((R : Int) == 0) = false := by rw [beq_eq_false_iff_ne]; omega
  have hlt := Nat.mod_lt (n + R - base) hRp
  have hah : aheadI R base n = if R / 2 ≤ (n + R - base) % R then -1 else (((n + R - base) % R : Nat) : Int) := rfl
  replace hah := Lib.hid hah
  have hyb : R / 2 ≤ 16777216 := by omega
  clear hR h
  generalize (n + R - base) % R = d at *
  generalize n + R - base = x at *
  by_cases hd : R / 2 ≤ d
  · generalize R / 2 = y at *
    go_enter Try.func37, Try.ntmps37
    go_wp2_with fail
    go_ret
    exact ⟨ret_int (by rw [hah.out, if_pos hd]), rfl⟩
  · generalize R / 2 = y at *
    have hdI : ¬ ((y : Int) ≤ (d : Int)) := by omega
    go_enter Try.func37, Try.ntmps37
    go_wp2_with fail
    go_ret
    exact ⟨ret_int (by rw [hah.out, if_neg hd]), rfl⟩
end Go.Proofs.Ytglmlhbchfgliaa
