/-
  The walks of Offset, Clone, Symbol and of the closure that exchanges two places. Conditions: they are streams that were made.
-/
import Derived.Test.YtokfophpjkglmaaRc4Xor
import Derived.Laws.CopyOwn
namespace Go.Proofs.Ytokfophpjkglmaa
open Go.RowKit
theorem offset_any (b : Nat) (C : Cph) (w : World) (hC : Ciph w b C) :
    Calls Try.prog 19 #[.pointer (some ⟨b, 0, none⟩)] w fun e w' => e = .returned (.int .i64 (C.off : Int)) ∧ w = w' := by
  have c1 := hC.off
  go_enter Try.func19, Try.ntmps19
  go_wp2_with fail
  go_ret
  exact ⟨rfl, rfl⟩
def zeroC : Array Value := (Value.bool false :: (cphCells { sym := false, id := 0, s := List.replicate 256 0, i := 0, j := 0, off := 0 }).tail).toArray
theorem cphSize (C : Cph) (h : C.s.length = 256) : (Try.prog.info? 45).map (·.size) = some (cphCells C).toArray.size := by
  rw [show (cphCells C).toArray.size = 262 by simp [cphCells, h]]
  kernel_rfl
theorem zeroC_size : zeroC.size = 262 := by decide +kernel
theorem sym_cells (n : Nat) : (cphCells (symC n)).toArray = ((zeroC.setIfInBounds 0 (.bool true)).setIfInBounds 1 (.bool true)).setIfInBounds 2 (.int .i64 (n : Int)) := by kernel_rfl
theorem zeroSize (C : Cph) (h : C.s.length = 256) : zeroC.size = (cphCells C).toArray.size := by
  rw [show (cphCells C).toArray.size = 262 by simp [cphCells, h]]
  decide +kernel
theorem cphOne (C : Cph) : (cphCells C).toArray.all (·.oneCell') = true := by
  simp [cphCells, bv, Value.oneCell']
set_option maxHeartbeats 400000 in
theorem clone_any (b : Nat) (C : Cph) (w : World) (hC : Ciph w b C) :
    Calls Try.prog 17 #[.pointer (some ⟨b, 0, none⟩)] w fun e w' => e = .returned (.pointer (some ⟨w.heap.size, 0, none⟩)) ∧ Ciph w' w.heap.size C ∧ Below w.heap.size w w' := by
  have c1 := hC.made
  have hz : ∀ w, (zeroValue 45).run Try.prog w = .ok (.agg zeroC) w := fun w => by kernel_rfl
  have hblk : w.heap[b]? = some (.cells (cphCells C).toArray 45 (0, 0)) := hC.blk
  have hblk' := Lib.hid hblk; clear hblk
  go_enter Try.func17, Try.ntmps17
  go_wp2_with (first | (refine wpList_load_row rfl 45 _ rfl b rfl 45 _ (0, 0) _ hblk'.out Try.underlying45 rfl (cphSize C hC.len) ?_) | (refine wpList_store_row rfl 45 _ _ rfl w.heap.size (cphCells C).toArray rfl rfl 45 zeroC (heap_alloc_new w _) (cphSize C hC.len) (zeroSize C hC.len) (cphOne C) ?_))
  go_ret
  refine ⟨rfl, ⟨setRow_heap _ _ _ _ _ _ (heap_alloc_new w _), hC.len⟩, below_setRow (below_alloc (Below.refl _ _) _ (Nat.le_refl _)) (Nat.le_refl _) _⟩
set_option maxRecDepth 100000 in
set_option maxHeartbeats 400000 in
theorem symbol_any (n : Nat) (w : World) :
    Calls Try.prog 14 #[.int .i64 (n : Int)] w fun e w' => e = .returned (.pointer (some ⟨w.heap.size, 0, none⟩)) ∧ Ciph w' w.heap.size (symC n) ∧ Below w.heap.size w w' := by
  have hz : ∀ w, (zeroValue 45).run Try.prog w = .ok (.agg zeroC) w := fun w => by kernel_rfl
  have hz1 : (zeroC = #[]) = False := by simp [zeroC]
  have hz2 : zeroC.size = 262 := zeroC_size
  go_enter Try.func14, Try.ntmps14
  go_wp2_with fail
  go_ret
  refine ⟨rfl, ⟨?_, symC_length n⟩, below_alloc (Below.refl _ _) _ (Nat.le_refl _)⟩
  rw [sym_cells n]
  exact Blk.new w _ _

/-- a stream's block while it is made -/
def rawC (s : List UInt8) : Cph := { sym := false, id := 0, s := s, i := 0, j := 0, off := 0 }
theorem raw_cells : zeroC.setIfInBounds 0 (.bool true) = (cphCells (rawC (List.replicate 256 0))).toArray := by kernel_rfl

set_option maxRecDepth 100000 in
set_option maxHeartbeats 1000000 in
theorem swap_any (b v : Nat) (C : Cph) (i j : UInt8) (w : World) (hC : Ciph w b C) (hV : Blk w v #[.pointer (some ⟨b, 0, none⟩)] 24) :
    Calls Try.prog 20 #[.int .u8 (i.toNat : Int), .int .u8 (j.toNat : Int), .pointer (some ⟨v, 0, none⟩)] w fun e w' => e = .returned (.tuple #[]) ∧ Ciph w' b { C with s := swp C.s i.toNat j.toNat } ∧ w.grownBy w' (some b) := by
  have hi : i.toNat < 256 := i.toNat_lt
  have hj : j.toNat < 256 := j.toNat_lt
  have hiI : (i.toNat : Int) < 256 := by omega
  have hjI : (j.toNat : Int) < 256 := by omega
  have c1 : w.cell? ⟨v, 0, none⟩ = some (.pointer (some ⟨b, 0, none⟩)) := by rw [hV.cell]; rfl
  have c6 := hC.at i.toNat hi
  have c7 := hC.at j.toNat hj
  have hsw := (hC.swap i.toNat j.toNat hi hj).grown (grown_drew _ none) (by simp)
  have gsw := grown_trans (grown_trans (grown_set (w := w) (b := b) (o := 3 + i.toNat) (v := .int .u8 ((C.s.getD j.toNat 0).toNat : Int))) (grown_set (o := 3 + j.toNat) (v := .int .u8 ((C.s.getD i.toNat 0).toNat : Int)))) (grown_drew _ (some b))
  have f4 := hC.free (3 + i.toNat) none
  have f5 := hC.free (3 + j.toNat) none
  obtain ⟨v', hy'⟩ := cell?_setCell_some (w := w) (p := ⟨b, 3 + i.toNat, none⟩) (x := .int .u8 ((C.s.getD j.toNat 0).toNat : Int)) (q := ⟨b, 3 + j.toNat, none⟩) c7
  generalize C.s.getD i.toNat 0 = p at *
  generalize C.s.getD j.toNat 0 = q at *
  go_enter Try.func20, Try.ntmps20
  go_region
  go_end0
  exact ⟨rfl, hsw, gsw⟩
end Go.Proofs.Ytokfophpjkglmaa
