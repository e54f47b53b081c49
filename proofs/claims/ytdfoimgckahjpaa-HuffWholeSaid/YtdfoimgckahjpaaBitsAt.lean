/-
  The walks of package bits: where a bit stands. No conditions.
-/
import Derived.Test.YtdfoimgckahjpaaBitsPlain
namespace Go.Proofs.Ytdfoimgckahjpaa
open Go.RowKit

/-- the function value of an order -/
def placeV (high : Bool) : Value := .func (.func 49) #[.agg #[.bool high]] #[]

theorem at_any (high : Bool) (k n : Nat) (w : World) (hk : k < n) (hn : n < 4294967296) :
    Calls Try.prog 49 #[.agg #[.bool high], .int .i64 (k : Int), .int .i64 (n : Int)] w fun e w' => e = .returned (.int .i64 ((plc high k n : Nat) : Int)) ∧ Below w.heap.size w w' := by
  cases high
  · go_enter Try.func49, Try.ntmps49
    go_wp2_with fail
    go_ret
    exact ⟨rfl, below_alloc (Below.refl _ _) _ (Nat.le_refl _)⟩
  · go_enter Try.func49, Try.ntmps49
    go_wp2_with fail
    go_ret
    exact ⟨ret_int (by show _ = ((n - 1 - k : Nat) : Int); omega), below_alloc (Below.refl _ _) _ (Nat.le_refl _)⟩

theorem nq_func {high : Bool} (w : World) : Sem.run Try.prog (binOp BinOp.neq 76 (.func (.func 49) #[.agg #[.bool high]] #[]) .nilFunc) w = .ok (.bool true) w := by kernel_rfl

theorem made_r (b : Nat) (cs : Array Value) (high : Bool) (w : World) (hb : Blk w b cs 80) (h2 : cs[2]? = some (placeV high)) :
    Calls Try.prog 50 #[.pointer (some ⟨b, 0, none⟩)] w fun e w' => e = .returned (.bool true) ∧ w = w' := by
  have g := hb.cell 2
  rw [h2] at g
  unfold placeV at g
  have hq := nq_func (high := high)
  go_enter Try.func50, Try.ntmps50
  go_wp2_with fail
  go_ret
  exact ⟨rfl, rfl⟩
theorem made_w (b : Nat) (cs : Array Value) (high : Bool) (w : World) (hb : Blk w b cs 85) (h2 : cs[2]? = some (placeV high)) :
    Calls Try.prog 55 #[.pointer (some ⟨b, 0, none⟩)] w fun e w' => e = .returned (.bool true) ∧ w = w' := by
  have g := hb.cell 2
  rw [h2] at g
  unfold placeV at g
  have hq := nq_func (high := high)
  go_enter Try.func55, Try.ntmps55
  go_wp2_with fail
  go_ret
  exact ⟨rfl, rfl⟩
end Go.Proofs.Ytdfoimgckahjpaa
