/-
  A stream's block in memory, and what each store into it leaves. No conditions.
-/
import Derived.Test.YtokfophpjkglmaaLib
import Derived.Test.YtokfophpjkglmaaRc4Plain
namespace Go.Proofs.Ytokfophpjkglmaa
open Go.RowKit

def cphCells (C : Cph) : List Value := .bool true :: .bool C.sym :: .int .i64 (C.id : Int) :: (C.s.map bv ++ [bv C.i, bv C.j, .int .i64 (C.off : Int)])
theorem cphCells_length (C : Cph) (h : C.s.length = 256) : (cphCells C).length = 262 := by simp [cphCells, h]

/-- a stream lies in block b -/
structure Ciph (w : World) (b : Nat) (C : Cph) : Prop where
  blk : Blk w b (cphCells C).toArray 45
  len : C.s.length = 256

section
variable {w : World} {b : Nat} {C : Cph}
theorem Ciph.cell (h : Ciph w b C) (o : Nat) : w.cell? ⟨b, o, none⟩ = (cphCells C)[o]? := by rw [h.blk.cell]; simp
theorem Ciph.made (h : Ciph w b C) : w.cell? ⟨b, 0, none⟩ = some (.bool true) := by rw [h.cell]; rfl
theorem Ciph.sym (h : Ciph w b C) : w.cell? ⟨b, 1, none⟩ = some (.bool C.sym) := by rw [h.cell]; rfl
theorem Ciph.id (h : Ciph w b C) : w.cell? ⟨b, 2, none⟩ = some (.int .i64 (C.id : Int)) := by rw [h.cell]; rfl
theorem Ciph.at (h : Ciph w b C) (k : Nat) (hk : k < 256) : w.cell? ⟨b, 3 + k, none⟩ = some (.int .u8 ((C.s.getD k 0).toNat : Int)) := by
  rw [h.cell, show 3 + k = k + 1 + 1 + 1 by omega]
  simp only [cphCells, List.getElem?_cons_succ]
  have hk' : k < C.s.length := by rw [h.len]; exact hk
  rw [List.getElem?_append_left (by simpa using hk')]
  simp [bv, List.getD_eq_getElem?_getD, List.getElem?_eq_getElem hk']
theorem Ciph.i (h : Ciph w b C) : w.cell? ⟨b, 259, none⟩ = some (.int .u8 (C.i.toNat : Int)) := by
  rw [h.cell]
  simp only [cphCells, List.getElem?_cons_succ]
  rw [List.getElem?_append_right (by simp [h.len])]
  simp [h.len, bv]
theorem Ciph.j (h : Ciph w b C) : w.cell? ⟨b, 260, none⟩ = some (.int .u8 (C.j.toNat : Int)) := by
  rw [h.cell]
  simp only [cphCells, List.getElem?_cons_succ]
  rw [List.getElem?_append_right (by simp [h.len])]
  simp [h.len, bv]
theorem Ciph.off (h : Ciph w b C) : w.cell? ⟨b, 261, none⟩ = some (.int .i64 (C.off : Int)) := by
  rw [h.cell]
  simp only [cphCells, List.getElem?_cons_succ]
  rw [List.getElem?_append_right (by simp [h.len])]
  simp [h.len]
theorem Ciph.free (h : Ciph w b C) (o : Nat) (s : Option Nat) : w.frozen? ⟨b, o, s⟩ = false := h.blk.free o s
theorem Ciph.lt (h : Ciph w b C) : b < w.heap.size := h.blk.lt
theorem Ciph.below {w' : World} {B : Nat} (h : Ciph w b C) (hb : Below B w w') (hB : b < B) : Ciph w' b C := ⟨h.blk.below hb hB, h.len⟩
theorem Ciph.grown {w' : World} {row : Option Nat} (h : Ciph w b C) (hg : w.grownBy w' row) (hne : some b ≠ row) : Ciph w' b C := ⟨h.blk.grown hg hne, h.len⟩
theorem set3 (x y z : Value) (l m : List Value) (k : Nat) (v : Value) (hk : k < l.length) : (x :: y :: z :: (l ++ m)).set (3 + k) v = x :: y :: z :: (l.set k v ++ m) := by
  rw [show 3 + k = k + 1 + 1 + 1 by omega]
  simp only [List.set_cons_succ]
  rw [List.set_append_left _ _ hk]
theorem set3' (x y z : Value) (l m : List Value) (k : Nat) (v : Value) (hl : l.length = 256) : (x :: y :: z :: (l ++ m)).set (259 + k) v = x :: y :: z :: (l ++ m.set k v) := by
  rw [show 259 + k = (256 + k) + 1 + 1 + 1 by omega]
  simp only [List.set_cons_succ]
  rw [List.set_append_right _ _ (by omega), hl, show 256 + k - 256 = k by omega]
theorem Ciph.setAny (h : Ciph w b C) (D : Cph) (o : Nat) (v : Value) (hD : D.s.length = 256) (he : (cphCells C).set o v = cphCells D) : Ciph (w.setCell ⟨b, o, none⟩ v) b D := by
  refine ⟨?_, hD⟩
  have := h.blk.set o v
  rw [List.setIfInBounds_toArray, he] at this
  exact this
theorem Ciph.setOff (h : Ciph w b C) (n : Nat) : Ciph (w.setCell ⟨b, 261, none⟩ (.int .i64 (n : Int))) b { C with off := n } :=
  h.setAny _ 261 _ h.len (set3' _ _ _ _ _ 2 _ (by simpa using h.len))
theorem Ciph.setI (h : Ciph w b C) (x : UInt8) : Ciph (w.setCell ⟨b, 259, none⟩ (.int .u8 (x.toNat : Int))) b { C with i := x } :=
  h.setAny _ 259 _ h.len (set3' _ _ _ _ _ 0 _ (by simpa using h.len))
theorem Ciph.setJ (h : Ciph w b C) (x : UInt8) : Ciph (w.setCell ⟨b, 260, none⟩ (.int .u8 (x.toNat : Int))) b { C with j := x } :=
  h.setAny _ 260 _ h.len (set3' _ _ _ _ _ 1 _ (by simpa using h.len))
theorem Ciph.setS (h : Ciph w b C) (k : Nat) (hk : k < 256) (x : UInt8) : Ciph (w.setCell ⟨b, 3 + k, none⟩ (.int .u8 (x.toNat : Int))) b { C with s := C.s.set k x } :=
  h.setAny _ (3 + k) _ (by simpa using h.len) (by
    refine (set3 _ _ _ _ _ k _ (by simpa [h.len] using hk)).trans ?_
    simp only [cphCells, bv, List.map_set])
theorem Ciph.swap (h : Ciph w b C) (k m : Nat) (hk : k < 256) (hm : m < 256) :
    Ciph ((w.setCell ⟨b, 3 + k, none⟩ (.int .u8 ((C.s.getD m 0).toNat : Int))).setCell ⟨b, 3 + m, none⟩ (.int .u8 ((C.s.getD k 0).toNat : Int))) b { C with s := swp C.s k m } :=
  (h.setS k hk _).setS m hm _
end
end Go.Proofs.Ytokfophpjkglmaa
