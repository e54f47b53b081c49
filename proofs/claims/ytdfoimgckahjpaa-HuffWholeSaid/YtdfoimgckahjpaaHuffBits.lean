/-
  The walk of bitsOf: what is put by codes. No conditions.
-/
import Derived.Test.YtdfoimgckahjpaaHuffWhole
import Derived.Test.YtdfoimgckahjpaaBitsPut
namespace Go.Proofs.Ytdfoimgckahjpaa
open Go.RowKit
/-- a code's bits, the highest first -/
def codeBits (L : List Nat) (s : Nat) : List Bool := (List.range (L.getD s 0)).map fun j => (codeOf L s).testBit (L.getD s 0 - 1 - j)
/-- the bits of symbols -/
def allBits (L : List Nat) (S : List Nat) : List Bool := S.flatMap (codeBits L)
theorem codeBits_length (L : List Nat) (s : Nat) : (codeBits L s).length = L.getD s 0 := by simp [codeBits]
theorem allBits_snoc (L : List Nat) (S : List Nat) (s : Nat) : allBits L (S ++ [s]) = allBits L S ++ codeBits L s := by simp [allBits]
theorem codeBits_take {L : List Nat} {s q : Nat} (h : q < L.getD s 0) : (codeBits L s).take (q + 1) = (codeBits L s).take q ++ [(codeOf L s).testBit (L.getD s 0 - 1 - q)] := by
  rw [List.take_succ_eq_append_getElem (by rw [codeBits_length]; exact h)]
  simp [codeBits]
theorem allBits_le {L : List Nat} (h15 : ∀ i, i < L.length → L.getD i 0 ≤ 15) : ∀ S : List Nat, (∀ s, s ∈ S → s < L.length) → (allBits L S).length ≤ S.length * 15
  | [], _ => by simp [allBits]
  | s :: S, h => by
    have h1 := allBits_le h15 S (fun x hx => h x (List.mem_cons_of_mem _ hx))
    have h2 := h15 s (h s (List.mem_cons_self ..))
    have h3 := codeBits_length L s
    simp only [allBits, List.flatMap_cons, List.length_append, List.length_cons] at *
    omega
theorem numBits_one (b : Bool) : numBits false b.toNat 1 1 = [b] := by cases b <;> decide
/-- what bitsOf answers -/
def BitsOf (w : World) (l : List UInt8) (e : Ending) (w' : World) : Prop :=
  ∃ a c, e = .returned (.tuple #[.slice a l.length c, .bool true]) ∧ w'.ownsRow w.heap.size 5 1 (.slice a l.length c) l.length (l.map bv) ∧ Below w.heap.size w w'
set_option maxRecDepth 100000 in
set_option maxHeartbeats 4000000 in
theorem bitsOf_any {w : World} {b B n c : Nat} {L S : List Nat} {a : Option Addr} (hT : Tb w b L) (hS : Nums w B (.slice a n c) S) (hin : ∀ s, s ∈ S → s < L.length ∧ 0 < L.getD s 0) (h100 : S.length ≤ 1000) :
    Calls Try.prog 47 #[.pointer (some ⟨b, 0, none⟩), .slice a n c] w (BitsOf w (packB false (allBits L S))) := by
  have hn := hS.len
  subst hn
  have h15 := hT.le15
  have hmem : ∀ k, k < S.length → S.getD k 0 < L.length ∧ 0 < L.getD (S.getD k 0) 0 := fun k hk => by
    rw [show S.getD k 0 = S[k] by rw [List.getD_eq_getElem?_getD, List.getElem?_eq_getElem hk]; rfl]
    exact hin _ (List.getElem_mem hk)
  have htk : ∀ k, k < S.length → S.take (k + 1) = S.take k ++ [S.getD k 0] := fun k hk => by
    rw [List.take_succ_eq_append_getElem hk, List.getD_eq_getElem?_getD, List.getElem?_eq_getElem hk]; rfl
  have hfew : ∀ k, (allBits L (S.take k)).length ≤ 15000 := fun k => by
    have h1 := allBits_le h15 (S.take k) (fun s hs => (hin s (List.mem_of_mem_take hs)).1)
    have h2 : (S.take k).length ≤ 1000 := by rw [List.length_take]; omega
    omega
  have hcode := fun s (hs : s < L.length) (h0 : 0 < L.getD s 0) => Nat.lt_of_lt_of_le (codeOf_lt hs h0) (fst_le hT.whole (h15 s hs))
  replace hmem := Lib.hid hmem
  replace htk := Lib.hid htk
  replace hfew := Lib.hid hfew
  replace hcode := Lib.hid hcode
  replace h15 := Lib.hid h15
  clear hin
  go_enter Try.func47, Try.ntmps47
  go_wp2_with fail
  refine (new_writer false w).mono ?_
  rintro e w1 ⟨rfl, hW, hb⟩
  go_wp2_with fail
  go_loopw [7] (fun i wr => ∃ (k : Nat) (v : Value), k ≤ S.length ∧ i = .int .i64 (k : Nat) ∧ Wr wr w.heap.size w.heap.size v false (allBits L (S.take k)) ∧ Below w.heap.size w wr) (fun i _ => S.length - (intOf i).toNat)
  case atStart => exact ⟨0, _, by omega, rfl, hW, hb⟩
  case round =>
    clear hW hb
    obtain ⟨k, v, hk, rfl, hW, hb⟩ := hrel
    have hTr := hT.below hb
    by_cases hlt : k < S.length
    · obtain ⟨r, rfl, g1⟩ := (hS.below hb).cell hlt
      obtain ⟨m1, m2⟩ := hmem.out k hlt
      have m3 := h15.out _ m1
      have m4 := hcode.out _ m1 m2
      have m5 := Nat.pow_le_pow_right (show 0 < 2 by decide) m3
      have htk2 := htk.out k hlt
      have hf2 := hfew.out (k + 1)
      rw [htk2, allBits_snoc] at hf2
      unfold nv at g1
      generalize hs : S.getD k 0 = s at *
      have hcd := code_in hTr m1
      have hcl := codeBits_length L s
      have hct := fun q => @codeBits_take L s q
      unfold nv at hcd
      generalize hN : L.getD s 0 = N at *
      generalize hC : codeOf L s = C at *
      have hCb : C ≤ 32768 := by omega
      replace hs := Lib.hid hs
      replace hN := Lib.hid hN
      replace hC := Lib.hid hC
      replace hct := Lib.hid hct
      replace htk2 := Lib.hid htk2
      generalize hfs : allBits L (S.take k) = fs at *
      replace hfs := Lib.hid hfs
      have hNz : ((N : Int) == 0) = false := by rw [beq_eq_false_iff_ne]; omega
      have hW0 : Wr wr w.heap.size w.heap.size v false (fs ++ (codeBits L s).take 0) := by simpa using hW
      go_wp2_with fail
      refine hcd.mono ?_
      rintro e w2 ⟨rfl, m, rfl⟩
      have hW2 := hW0.below (below_drewN (Below.refl _ _) m)
      have hb2 := below_drewN hb m
      clear hcd hTr hW hW0 hb g1
      generalize wr.drewN m = w2 at *
      go_wp2_with fail
      go_loopw [10] (fun i wr => ∃ (q : Nat) (v : Value), q ≤ N ∧ i = .int .i64 ((N : Int) - 1 - (q : Nat)) ∧ Wr wr w.heap.size w.heap.size v false (fs ++ (codeBits L s).take q) ∧ Below w.heap.size w wr) (fun i _ => (intOf i + 1).toNat)
      case atStart => exact ⟨0, v, by omega, by simp, hW2, hb2⟩
      case round =>
        clear hW2 hb2
        obtain ⟨q, v, hq, rfl, hW, hb⟩ := hrel
        by_cases hlt2 : q < N
        · have hP : (N : Int) - 1 - (q : Nat) = ((N - 1 - q : Nat) : Int) := by omega
          have hnx : ((N - 1 - q : Nat) : Int) - 1 = (N : Int) - 1 - ((q + 1 : Nat) : Int) := by omega
          have hct2 := hct.out q hlt2
          have hPb : N - 1 - q ≤ 15 := by omega
          rw [hP]
          clear hP
          generalize hPP : N - 1 - q = P at *
          replace hPP := Lib.hid hPP
          have hand := i64_bit C P (by omega)
          rw [bit_and] at hand
          generalize C.testBit P = bt at *
          have hbt : bt.toNat < 2 ^ 1 := by cases bt <;> decide
          have hrm : (fs ++ (codeBits L s).take q).length + 1 ≤ 1099511627776 := by
            have : ((codeBits L s).take q).length ≤ (codeBits L s).length := by rw [List.length_take]; omega
            rw [List.length_append] at hf2 ⊢; omega
          have hput := put_yes hW bt.toNat 1 (by decide) hbt hb.size hrm
          rw [numBits_one, List.append_assoc, ← hct2] at hput
          have hfoot := fun w3 (hB : ButOf (Foot w.heap.size v) wr w3) => below_frame hb hB (fun j _ hj => (hW.foot (Nat.le_refl _) j hj).1) hb.size
          replace hfoot := Lib.hid hfoot
          replace hnx := Lib.hid hnx
          clear hct2 hW hrm
          go_wp2_with fail
          refine hput.mono ?_
          rintro e w3 ⟨v3, rfl, hW3, hB3, -⟩
          have hb3 := hfoot.out w3 hB3
          clear hput hB3 hfoot hb
          go_wp2_with fail
          go_roundw
          case rel => exact ⟨q + 1, v3, by omega, by rw [← hnx.out], hW3, hb3⟩
          case measure => simp [intOf]
        · obtain rfl : q = N := by omega
          have hneg : (q : Int) - 1 - (q : Nat) = -1 := by omega
          rw [hneg]
          rw [List.take_of_length_le (by omega)] at hW
          rw [← hfs.out, ← allBits_snoc, ← htk2.out] at hW
          go_wp2_with fail
          go_roundw
          case rel => exact ⟨k + 1, v, by omega, by go_num, hW, hb⟩
          case measure => simp [intOf]; omega
    · obtain rfl : k = S.length := by omega
      rw [List.take_length] at hW
      have hwb := wbytes_any hW
      go_wp2_with fail
      refine hwb.mono ?_
      rintro e w2 ⟨a2, c2, rfl, ho, hb2⟩
      go_wp2_with fail
      go_ret2
      exact ⟨a2, c2, rfl, own_mono ho hb.size, hb.trans (hb2.mono hb.size)⟩
end Go.Proofs.Ytdfoimgckahjpaa
