/-
  The walk of the method that gives one byte of a stream, of a key or of a term. Conditions: it is a stream that was made; its place and its number are below 2^40.
-/
import Derived.Test.YtokfophpjkglmaaRc4Heap
import Derived.BigRegion
import Derived.Deep.Cut
namespace Go.Proofs.Ytokfophpjkglmaa
open Go.RowKit
theorem u8_add (a c : UInt8) : ((a.toNat : Int) + (c.toNat : Int)) % 256 = (((a + c).toNat : Nat) : Int) := by
  rw [UInt8.toNat_add]; omega
theorem u8_inc (a : UInt8) : ((a.toNat : Int) + 1) % 256 = (((a + 1).toNat : Nat) : Int) := u8_add a 1
set_option maxRecDepth 100000 in
set_option maxHeartbeats 1000000 in
theorem next_key (b : Nat) (C : Cph) (x : UInt8) (w : World) (hC : Ciph w b C) (hs : C.sym = false) (hoff : C.off < 1099511627776) :
    Calls Try.prog 21 #[.pointer (some ⟨b, 0, none⟩), .int .u8 (x.toNat : Int)] w fun e w' => e = .returned (.int .u8 ((C.out x).toNat : Int)) ∧ Ciph w' b C.nx ∧ w.grownBy w' (some b) := by
  have c1 := hC.off
  have f1 := hC.free 261 none
  go_enter Try.func21, Try.ntmps21
  go_upto_region 3 with fail
  have h1 : Ciph (w.setCell ⟨b, 261, none⟩ (.int .i64 ((C.off : Int) + 1))) b { C with off := C.off + 1 } := hC.setOff (C.off + 1)
  have g1 : w.grownBy (w.setCell ⟨b, 261, none⟩ (.int .i64 ((C.off : Int) + 1))) (some b) := grown_set
  clear c1 f1
  generalize w.setCell ⟨b, 261, none⟩ (.int .i64 ((C.off : Int) + 1)) = w1 at *
  have c2 : w1.cell? ⟨b, 1, none⟩ = some (.bool false) := by rw [h1.sym, ← hs]
  have c3 : w1.cell? ⟨b, 259, none⟩ = some (.int .u8 (C.i.toNat : Int)) := h1.i
  have f3 := h1.free 259 none
  go_upto_region 6 with fail
  have h2 : Ciph (w1.setCell ⟨b, 259, none⟩ (.int .u8 (((C.i.toNat : Int) + 1) % 256))) b { C with off := C.off + 1, i := C.i + 1 } := by rw [u8_inc]; exact h1.setI (C.i + 1)
  have g2 : w.grownBy (w1.setCell ⟨b, 259, none⟩ (.int .u8 (((C.i.toNat : Int) + 1) % 256))) (some b) := grown_trans g1 grown_set
  clear c2 c3 f3 h1 g1
  generalize w1.setCell ⟨b, 259, none⟩ (.int .u8 (((C.i.toNat : Int) + 1) % 256)) = w2 at *
  have hi : (C.i + 1).toNat < 256 := (C.i + 1).toNat_lt
  have c4 : w2.cell? ⟨b, 259, none⟩ = some (.int .u8 ((C.i + 1).toNat : Int)) := h2.i
  have c5 : w2.cell? ⟨b, 260, none⟩ = some (.int .u8 (C.j.toNat : Int)) := h2.j
  have c6 : w2.cell? ⟨b, 3 + (C.i + 1).toNat, none⟩ = some (.int .u8 ((C.s.getD (C.i + 1).toNat 0).toNat : Int)) := h2.at _ hi
  have f6 := h2.free 260 none
  generalize ei : C.i + 1 = ni at *
  generalize es : C.s.getD ni.toNat 0 = si at *
  have ei' := Lib.hid ei; clear ei
  have es' := Lib.hid es; clear es
  have hiI : (ni.toNat : Int) < 256 := by omega
  go_still_tail 16, (by kernel_rfl)
  change wpList _ _ _ _ _ w2.drew
  have h2 : Ciph w2.drew b { C with off := C.off + 1, i := ni } := h2.grown (grown_drew w2 none) (by simp)
  have g2 := grown_trans g2 (grown_drew w2 (some b))
  have f6 : w2.drew.frozen? ⟨b, 260, none⟩ = false := f6
  have c5 : w2.drew.cell? ⟨b, 260, none⟩ = some (.int .u8 (C.j.toNat : Int)) := c5
  clear c4 c6
  generalize w2.drew = w3 at *
  go_upto_region 7 with fail
  have h3 : Ciph (w3.setCell ⟨b, 260, none⟩ (.int .u8 (((C.j.toNat : Int) + (si.toNat : Int)) % 256))) b { C with off := C.off + 1, i := ni, j := C.j + si } := by rw [u8_add]; exact h2.setJ (C.j + si)
  have g3 : w.grownBy (w3.setCell ⟨b, 260, none⟩ (.int .u8 (((C.j.toNat : Int) + (si.toNat : Int)) % 256))) (some b) := grown_trans g2 grown_set
  clear c5 f6 h2 g2
  generalize w3.setCell ⟨b, 260, none⟩ (.int .u8 (((C.j.toNat : Int) + (si.toNat : Int)) % 256)) = w4 at *
  generalize ej : C.j + si = nj at *
  have ej' := Lib.hid ej; clear ej
  have hj : nj.toNat < 256 := nj.toNat_lt
  have hjI : (nj.toNat : Int) < 256 := by omega
  have c4 : w4.cell? ⟨b, 259, none⟩ = some (.int .u8 (ni.toNat : Int)) := h3.i
  have c5 : w4.cell? ⟨b, 260, none⟩ = some (.int .u8 (nj.toNat : Int)) := h3.j
  have c6 : w4.cell? ⟨b, 3 + ni.toNat, none⟩ = some (.int .u8 (si.toNat : Int)) := by rw [← es'.out]; exact h3.at _ hi
  have c7 : w4.cell? ⟨b, 3 + nj.toNat, none⟩ = some (.int .u8 ((C.s.getD nj.toNat 0).toNat : Int)) := h3.at _ hj
  have hsw : Ciph ((w4.setCell ⟨b, 3 + ni.toNat, none⟩ (.int .u8 ((C.s.getD nj.toNat 0).toNat : Int))).setCell ⟨b, 3 + nj.toNat, none⟩ (.int .u8 (si.toNat : Int))) b { C with off := C.off + 1, i := ni, j := nj, s := swp C.s ni.toNat nj.toNat } := by
    rw [← es'.out]; exact h3.swap ni.toNat nj.toNat hi hj
  have gsw : w.grownBy ((w4.setCell ⟨b, 3 + ni.toNat, none⟩ (.int .u8 ((C.s.getD nj.toNat 0).toNat : Int))).setCell ⟨b, 3 + nj.toNat, none⟩ (.int .u8 (si.toNat : Int))) (some b) := grown_trans (grown_trans g3 grown_set) grown_set
  generalize est : C.s.getD nj.toNat 0 = sj at *
  have est' := Lib.hid est; clear est
  have f4 := h3.free (3 + ni.toNat) none
  have f5 := h3.free (3 + nj.toNat) none
  obtain ⟨v', hy'⟩ := cell?_setCell_some (w := w4) (p := ⟨b, 3 + ni.toNat, none⟩) (x := .int .u8 (sj.toNat : Int)) (q := ⟨b, 3 + nj.toNat, none⟩) c7
  go_region
  have h4 := hsw.grown (grown_drew _ none) (by simp)
  have g4 := grown_trans gsw (grown_drew _ (some b))
  clear hy' c4 c5 c6 c7 f4 f5 hsw gsw h3 g3
  generalize ((w4.setCell ⟨b, 3 + ni.toNat, none⟩ (.int .u8 (sj.toNat : Int))).setCell ⟨b, 3 + nj.toNat, none⟩ (.int .u8 (si.toNat : Int))).drew = w5 at *
  have eD : C.nx = { C with off := C.off + 1, i := ni, j := nj, s := swp C.s ni.toNat nj.toNat } := by
    simp only [Cph.nx, hs, Bool.false_eq_true, if_false, ei'.out, es'.out, ej'.out]
  rw [← eD] at h4
  have eo : C.out x = x ^^^ C.nx.key := by simp [Cph.out, hs]
  have e1 : C.nx.i = ni := by rw [eD]
  have e2 : C.nx.j = nj := by rw [eD]
  have eD' := Lib.hid eD; clear eD
  have eo' := Lib.hid eo; clear eo
  unfold Cph.key at eo'
  rw [e1, e2] at eo'
  have c4 : w5.cell? ⟨b, 259, none⟩ = some (.int .u8 (ni.toNat : Int)) := by rw [← e1]; exact h4.i
  have c5 : w5.cell? ⟨b, 260, none⟩ = some (.int .u8 (nj.toNat : Int)) := by rw [← e2]; exact h4.j
  have c6 := h4.at ni.toNat hi
  have c7 := h4.at nj.toNat hj
  generalize C.nx.s.getD ni.toNat 0 = p at *
  generalize C.nx.s.getD nj.toNat 0 = q at *
  have hadd : IntKind.u8.wrap ((p.toNat : Int) + (q.toNat : Int)) = (((p + q).toNat : Nat) : Int) := by rw [IntKind.wrap_u8', u8_add]
  generalize p + q = z at *
  have hz : z.toNat < 256 := z.toNat_lt
  have c8 := h4.at z.toNat hz
  generalize C.nx.s.getD z.toNat 0 = r at *
  have hzI : (z.toNat : Int) < 256 := by omega
  have hxr := u8_xor_nat _ _ x.toNat_lt r.toNat_lt
  clear e1 e2
  go_wp2_with fail
  go_quiet (fail)
  go_wp2_with fail
  go_ret
  exact ⟨ret_int (k := .u8) (a := ((x.toNat ^^^ r.toNat : Nat) : Int)) (by rw [eo'.out]; simp), h4.grown (grown_drewN w5 nq none) (by simp), grown_trans g4 (grown_drewN w5 nq (some b))⟩

set_option maxRecDepth 100000 in
set_option maxHeartbeats 1000000 in
theorem next_term (b : Nat) (C : Cph) (x : UInt8) (w : World) (hC : Ciph w b C) (hs : C.sym = true) (hoff : C.off < 1099511627776) (hid : C.id < 1099511627776) :
    Calls Try.prog 21 #[.pointer (some ⟨b, 0, none⟩), .int .u8 (x.toNat : Int)] w fun e w' => e = .returned (.int .u8 ((C.out x).toNat : Int)) ∧ Ciph w' b C.nx ∧ w.grownBy w' (some b) := by
  have c1 := hC.off
  have f1 := hC.free 261 none
  have eo : C.out x = UInt8.ofNat (31 * C.id + 7 * C.off + C.off / 256) := by simp [Cph.out, hs]
  have eo' := Lib.hid eo; clear eo
  go_enter Try.func21, Try.ntmps21
  go_upto_region 3 with fail
  have h1 : Ciph (w.setCell ⟨b, 261, none⟩ (.int .i64 ((C.off : Int) + 1))) b { C with off := C.off + 1 } := hC.setOff (C.off + 1)
  have g1 : w.grownBy (w.setCell ⟨b, 261, none⟩ (.int .i64 ((C.off : Int) + 1))) (some b) := grown_set
  clear c1 f1
  generalize w.setCell ⟨b, 261, none⟩ (.int .i64 ((C.off : Int) + 1)) = w1 at *
  have c2 : w1.cell? ⟨b, 1, none⟩ = some (.bool true) := by rw [h1.sym, ← hs]
  have c3 : w1.cell? ⟨b, 2, none⟩ = some (.int .i64 (C.id : Int)) := h1.id
  have eD : C.nx = { C with off := C.off + 1 } := by simp [Cph.nx, hs]
  rw [← eD] at h1
  have eD' := Lib.hid eD; clear eD
  go_wp2_with fail
  go_ret
  exact ⟨ret_int (k := .u8) (a := ((31 * (C.id : Int) + 7 * (C.off : Int)) % 256 + (C.off : Int) / 256 % 256) % 256) (by rw [eo'.out]; simp), h1, g1⟩

theorem next_any (b : Nat) (C : Cph) (x : UInt8) (w : World) (hC : Ciph w b C) (hoff : C.off < 1099511627776) (hid : C.id < 1099511627776) :
    Calls Try.prog 21 #[.pointer (some ⟨b, 0, none⟩), .int .u8 (x.toNat : Int)] w fun e w' => e = .returned (.int .u8 ((C.out x).toNat : Int)) ∧ Ciph w' b C.nx ∧ w.grownBy w' (some b) := by
  cases hs : C.sym with
  | false => exact next_key b C x w hC hs hoff
  | true => exact next_term b C x w hC hs hoff hid
end Go.Proofs.Ytokfophpjkglmaa
