/-
  The table of chapter 12 as plain numbers: the codes of each field, the actions and the next state of it. No program in sight.
-/
import Derived.Test.YtjcigaonadkhkaaLib
namespace Go.Proofs.Ytjcigaonadkhkaa
open Go.RowKit

/-- a number as a value -/
def iv (n : Nat) : Value := .int .i64 (n : Int)
/-- the fields by event and state, as codes -/
def fields : List (List (List UInt8)) := [
  [[50], [99, 114, 54], [], [], [], [], [], [], [], []],
  [[], [], [48], [115, 49], [48], [49], [49], [49], [49], [100, 49]],
  [[115, 49], [49], [99, 114, 54], [51], [53], [53], [54], [55], [56], [57]],
  [[48], [102, 48], [50], [50], [52], [52], [99, 116, 52], [99, 116, 52], [99, 116, 52], [100, 99, 116, 52]],
  [[], [], [], [], [116, 52], [116, 53], [114, 54], [114, 54], [114, 56], []],
  [[], [], [], [], [102, 50], [102, 51], [102, 51], [102, 51], [102, 51], []],
  [[], [], [84, 50], [99, 114, 97, 56], [52], [53], [97, 56], [97, 117, 57], [97, 56], [100, 114, 97, 56]],
  [[], [], [84, 50], [99, 114, 110, 54], [52], [53], [110, 54], [110, 55], [110, 54], [100, 114, 110, 54]],
  [[], [], [84, 50], [84, 51], [52], [53], [99, 55], [114, 54], [99, 117, 57], [100, 114, 54]],
  [[], [], [84, 50], [84, 51], [52], [53], [99, 114, 54], [114, 54], [99, 114, 56], [100, 114, 54]],
  [[], [], [84, 50], [84, 51], [84, 52], [84, 53], [84, 54], [84, 54], [84, 54], [100, 122, 84, 53]],
  [[], [], [50], [51], [102, 50], [102, 51], [54], [54], [56], [100, 114, 54]],
  [[], [], [106, 50], [106, 51], [106, 52], [106, 53], [106, 54], [106, 55], [106, 56], [106, 57]],
  [[], [], [50], [51], [52], [53], [54], [54], [56], [57]],
  [[], [], [102, 50], [102, 51], [102, 50], [102, 51], [102, 51], [102, 51], [102, 51], [100, 99, 116, 53]],
  [[], [], [50], [51], [52], [53], [54], [55], [56], [101, 57]]]
/-- the field of a state and an event -/
def field (s e : Nat) : List UInt8 := (fields.getD e []).getD s []
/-- the letters of the actions -/
def letters : List UInt8 := [117, 100, 115, 102, 99, 122, 114, 97, 110, 116, 84, 106, 101]
/-- an action by its letter -/
def actOf (c : UInt8) : Nat := letters.idxOf c
/-- the actions of a field -/
def actsN (s e : Nat) : List Nat := (field s e).dropLast.map actOf
/-- the next state -/
def nextN (s e : Nat) : Nat := match (field s e).getLast? with
  | none => s
  | some c => c.toNat - 48
/-- the actions, for any state and event -/
def actsI (s e : Int) : List Nat := if 0 ≤ s ∧ s ≤ 9 ∧ 0 ≤ e ∧ e < 16 then actsN s.toNat e.toNat else []
def nextI (s e : Int) : Int := if 0 ≤ s ∧ s ≤ 9 ∧ 0 ≤ e ∧ e < 16 then (nextN s.toNat e.toNat : Int) else s
theorem actsI_in {s : Nat} {e : Nat} (hs : s ≤ 9) (he : e ≤ 15) : actsI s e = actsN s e := by
  unfold actsI; rw [if_pos (by omega)]; simp
theorem nextI_in {s : Nat} {e : Nat} (hs : s ≤ 9) (he : e ≤ 15) : nextI s e = nextN s e := by
  unfold nextI; rw [if_pos (by omega)]; simp
theorem actsI_out {s e : Int} (h : ¬ (0 ≤ s ∧ s ≤ 9 ∧ 0 ≤ e ∧ e < 16)) : actsI s e = [] := by unfold actsI; rw [if_neg h]
theorem nextI_out {s e : Int} (h : ¬ (0 ≤ s ∧ s ≤ 9 ∧ 0 ≤ e ∧ e < 16)) : nextI s e = s := by unfold nextI; rw [if_neg h]
theorem ten {s : Nat} (h : s ≤ 9) : s = 0 ∨ s = 1 ∨ s = 2 ∨ s = 3 ∨ s = 4 ∨ s = 5 ∨ s = 6 ∨ s = 7 ∨ s = 8 ∨ s = 9 := by omega
/-- a row of numbers, made above B -/
def Nums (w : World) (B : Nat) (v : Value) (l : List Nat) : Prop := w.ownsRow B 3 1 v l.length (l.map iv)
theorem Nums.nil (w : World) (B : Nat) : Nums w B (.slice none 0 0) [] := World.ownsRow_nil _ _ _ _
theorem Nums.below {w w' : World} {B : Nat} {v : Value} {l : List Nat} (h : Nums w B v l) (hb : Below w.heap.size w w') : Nums w' B v l := own_below h hb
theorem Nums.mono {w : World} {B B' : Nat} {v : Value} {l : List Nat} (h : Nums w B v l) (hb : B' ≤ B) : Nums w B' v l := own_mono h hb
theorem Nums.new (w : World) (l : List Nat) (hl : l.length ≤ 1000) : Nums (w.alloc (.cells (l.map iv).toArray 3)) w.heap.size (.slice (some ⟨w.heap.size, 0, none⟩) l.length l.length) l := by
  have h := own_of_blk (n := l.length) (Blk.new w (l.map iv).toArray 3) (Nat.le_refl w.heap.size) (Nat.le_refl l.length) (by unfold maxLen; omega) (by simp)
  rwa [List.take_of_length_le (by simp)] at h
end Go.Proofs.Ytjcigaonadkhkaa
