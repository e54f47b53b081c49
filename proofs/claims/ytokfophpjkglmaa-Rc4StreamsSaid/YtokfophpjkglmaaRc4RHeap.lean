/-
  The reference's stream in memory, and what each store into it leaves. No conditions.
-/
import Derived.Test.YtokfophpjkglmaaRc4Heap
namespace Go.Proofs.Ytokfophpjkglmaa
open Go.RowKit
def refCells (C : Cph) : List Value := C.s.map bv ++ [.int .i64 (C.i.toNat : Int), .int .i64 (C.j.toNat : Int), .int .i64 (C.off : Int), .bool C.sym, .int .i64 (C.id : Int)]
/-- the reference's stream lies in block b -/
structure RC (w : World) (b : Nat) (C : Cph) : Prop where
  blk : Blk w b (refCells C).toArray 42
  len : C.s.length = 256
section
variable {w : World} {b : Nat} {C : Cph}
theorem RC.cell (h : RC w b C) (o : Nat) : w.cell? ⟨b, o, none⟩ = (refCells C)[o]? := by rw [h.blk.cell]; simp
theorem RC.at (h : RC w b C) (k : Nat) (hk : k < 256) : w.cell? ⟨b, k, none⟩ = some (.int .u8 ((C.s.getD k 0).toNat : Int)) := by
  have hk' : k < C.s.length := by rw [h.len]; exact hk
  rw [h.cell, refCells, List.getElem?_append_left (by simpa using hk')]
  simp [bv, List.getD_eq_getElem?_getD, List.getElem?_eq_getElem hk']
theorem RC.tail (h : RC w b C) (k : Nat) : w.cell? ⟨b, 256 + k, none⟩ = [Value.int .i64 (C.i.toNat : Int), .int .i64 (C.j.toNat : Int), .int .i64 (C.off : Int), .bool C.sym, .int .i64 (C.id : Int)][k]? := by
  rw [h.cell, refCells, List.getElem?_append_right (by simp [h.len])]
  simp [h.len]
theorem RC.i (h : RC w b C) : w.cell? ⟨b, 256, none⟩ = some (.int .i64 (C.i.toNat : Int)) := h.tail 0
theorem RC.j (h : RC w b C) : w.cell? ⟨b, 257, none⟩ = some (.int .i64 (C.j.toNat : Int)) := h.tail 1
theorem RC.off (h : RC w b C) : w.cell? ⟨b, 258, none⟩ = some (.int .i64 (C.off : Int)) := h.tail 2
theorem RC.sym (h : RC w b C) : w.cell? ⟨b, 259, none⟩ = some (.bool C.sym) := h.tail 3
theorem RC.id (h : RC w b C) : w.cell? ⟨b, 260, none⟩ = some (.int .i64 (C.id : Int)) := h.tail 4
theorem RC.free (h : RC w b C) (o : Nat) (s : Option Nat) : w.frozen? ⟨b, o, s⟩ = false := h.blk.free o s
theorem RC.lt (h : RC w b C) : b < w.heap.size := h.blk.lt
theorem RC.below {w' : World} {B : Nat} (h : RC w b C) (hb : Below B w w') (hB : b < B) : RC w' b C := ⟨h.blk.below hb hB, h.len⟩
theorem RC.grown {w' : World} {row : Option Nat} (h : RC w b C) (hg : w.grownBy w' row) (hne : some b ≠ row) : RC w' b C := ⟨h.blk.grown hg hne, h.len⟩
theorem RC.setAny (h : RC w b C) (D : Cph) (o : Nat) (v : Value) (hD : D.s.length = 256) (he : (refCells C).set o v = refCells D) : RC (w.setCell ⟨b, o, none⟩ v) b D := by
  refine ⟨?_, hD⟩
  have := h.blk.set o v
  rw [List.setIfInBounds_toArray, he] at this
  exact this
theorem ref_set (C : Cph) (hl : C.s.length = 256) (k : Nat) (v : Value) : (refCells C).set (256 + k) v = C.s.map bv ++ [Value.int .i64 (C.i.toNat : Int), .int .i64 (C.j.toNat : Int), .int .i64 (C.off : Int), .bool C.sym, .int .i64 (C.id : Int)].set k v := by
  rw [refCells, List.set_append_right _ _ (by simp [hl])]
  simp [hl]
theorem RC.setI (h : RC w b C) (x : UInt8) : RC (w.setCell ⟨b, 256, none⟩ (.int .i64 (x.toNat : Int))) b { C with i := x } := h.setAny _ 256 _ h.len (ref_set C h.len 0 _)
theorem RC.setJ (h : RC w b C) (x : UInt8) : RC (w.setCell ⟨b, 257, none⟩ (.int .i64 (x.toNat : Int))) b { C with j := x } := h.setAny _ 257 _ h.len (ref_set C h.len 1 _)
theorem RC.setOff (h : RC w b C) (n : Nat) : RC (w.setCell ⟨b, 258, none⟩ (.int .i64 (n : Int))) b { C with off := n } := h.setAny _ 258 _ h.len (ref_set C h.len 2 _)
theorem RC.setS (h : RC w b C) (k : Nat) (hk : k < 256) (x : UInt8) : RC (w.setCell ⟨b, k, none⟩ (.int .u8 (x.toNat : Int))) b { C with s := C.s.set k x } :=
  h.setAny _ k _ (by simpa using h.len) (by
    rw [refCells, List.set_append_left _ _ (by simpa [h.len] using hk)]
    simp only [refCells, bv, List.map_set])
end
theorem tmod_u8 (a c : UInt8) : ((a.toNat : Int) + (c.toNat : Int)).tmod 256 = (((a + c).toNat : Nat) : Int) := by
  rw [Int.tmod_eq_emod_of_nonneg (by omega), UInt8.toNat_add]; omega
theorem tmod_inc (a : UInt8) : ((a.toNat : Int) + 1).tmod 256 = (((a + 1).toNat : Nat) : Int) := tmod_u8 a 1
/-- a row of the call's own grew beside an object -/
theorem grown_over {w wr w1 : World} {b : Nat} {v : Value} {e : TypeId} {size n : Nat} {xs : List Value} (h : w.grownBy wr (some b)) (ho : wr.ownsRow w.heap.size e size v n xs) (hg : wr.grownBy w1 v.ownBlock) : w.grownBy w1 (some b) :=
  ⟨hg.os.trans h.os, hg.tape.trans h.tape, hg.output.trans h.output, Nat.le_trans h.size hg.size, fun k hk hn => (hg.block k (Nat.lt_of_lt_of_le hk h.size) (fun e => by have := (ho.lt k e.symm).1; omega)).trans (h.block k hk hn)⟩
end Go.Proofs.Ytokfophpjkglmaa
