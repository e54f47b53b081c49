/-
  A row of numbers that is being sorted by a closure's keys: the closure, swapRange, rotate. No conditions.
-/
import Derived.Test.YtdfoimgckahjpaaHuffHeap
import Derived.Deep.QuietTactic
import Derived.BigQuiet
import Derived.BigRegion
import Derived.Lib.Hide
namespace Go.Proofs.Ytdfoimgckahjpaa
open Go.RowKit
theorem own_setElem {w : World} {B E n c g k : Nat} {xs : List Value} (h : w.ownsRow B E 1 (.slice (some ⟨g, 0, none⟩) n c) n xs) (_ : k < n) (v : Value) : (w.setCell ⟨g, k, none⟩ v).ownsRow B E 1 (.slice (some ⟨g, 0, none⟩) n c) n (xs.set k v) := by
  obtain ⟨h1, h2⟩ := h
  refine ⟨by simpa using h1, ?_⟩
  rcases h2 with ⟨e, _⟩ | ⟨g', cap, cur, e, hg, hh, a1, a2, a3, a4⟩
  · cases e
  · cases e
    refine Or.inr ⟨g, c, cur.setIfInBounds k v, rfl, hg, heap_setCell_same _ _ _ _ _ _ hh, a1, a2, by simpa using a3, ?_⟩
    rw [Array.toList_setIfInBounds, ← a4]
    rw [List.take_set]
theorem own_blk {w : World} {B E n c g : Nat} {xs : List Value} (h : w.ownsRow B E 1 (.slice (some ⟨g, 0, none⟩) n c) n xs) : ∃ cs, Blk w g cs E := by
  rcases h.2 with ⟨e, _⟩ | ⟨g', cap, cur, e, hg, hh, _⟩
  · cases e
  · cases e; exact ⟨cur, hh⟩
/-- the keys that the closure reads: not in block g -/
structure Key (w : World) (p g : Nat) (ca : Option Addr) (m cc : Nat) (cs : Nat → Nat) : Prop where
  box : w.cell? ⟨p, 0, none⟩ = some (.slice ca m cc)
  cell : ∀ i, i < m → ∃ b o, ca = some ⟨b, o, none⟩ ∧ b ≠ g ∧ w.cell? ⟨b, o + i, none⟩ = some (.int .i64 (cs i : Nat))
  cap : m ≤ cc ∧ cc ≤ 9223372036854775807
  small : ∀ i, i < m → cs i ≤ 1073741824
  ne : p ≠ g
section
variable {w w' : World} {p g : Nat} {ca : Option Addr} {m cc : Nat} {cs : Nat → Nat}
theorem Key.but (h : Key w p g ca m cc cs) (hb : ButOf (fun k => k = g) w w') : Key w' p g ca m cc cs := by
  refine ⟨(World.cell?_of_block (hb.block p (World.block_lt_of_cell? _ _ h.box) h.ne)).trans h.box, fun i hi => ?_, h.cap, h.small, h.ne⟩
  obtain ⟨b, o, e, h1, h2⟩ := h.cell i hi
  exact ⟨b, o, e, h1, (World.cell?_of_block (hb.block b (World.block_lt_of_cell? _ _ h2) h1)).trans h2⟩
theorem Key.drewN (h : Key w p g ca m cc cs) (n : Nat) : Key (w.drewN n) p g ca m cc cs := h.but (ButOf.of_below (below_drewN (Below.refl _ _) n))
end
def usedV (p : Nat) : Value := .func (.func 65) #[] #[.pointer (some ⟨p, 0, none⟩)]
set_option maxRecDepth 100000 in
theorem used1_any {w : World} {p g : Nat} {ca : Option Addr} {m cc : Nat} {cs : Nat → Nat} (a b : Nat) (h : Key w p g ca m cc cs) (ha : a < m) (hb : b < m) :
    Calls Try.prog 65 #[.int .i64 (a : Nat), .int .i64 (b : Nat), .pointer (some ⟨p, 0, none⟩)] w fun e w' => e = .returned (.int .i64 ((cs a : Int) - (cs b : Int))) ∧ ∃ n, w' = w.drewN n := by
  have hbox := h.box
  obtain ⟨b0, o, rfl, _, c1⟩ := h.cell a ha
  obtain ⟨b1, o1, e, _, c2⟩ := h.cell b hb
  cases e
  have hcap := h.cap
  have haI : (a : Int) < (m : Int) := by omega
  have hbI : (b : Int) < (m : Int) := by omega
  have h1 := h.small a ha
  have h2 := h.small b hb
  generalize cs a = x at *
  generalize cs b = y at *
  go_enter Try.func65, Try.ntmps65
  go_wp2_with fail
  go_quiet (fail)
  go_wp2_with fail
  go_ret
  exact ⟨rfl, _, rfl⟩
section
variable {w w' : World} {B g n c : Nat} {l : List Nat}
theorem Nums.set (h : Nums w B (.slice (some ⟨g, 0, none⟩) n c) l) {k : Nat} (hk : k < l.length) (x : Nat) : Nums (w.setCell ⟨g, k, none⟩ (.int .i64 (x : Nat))) B (.slice (some ⟨g, 0, none⟩) n c) (l.set k x) := by
  have hn := h.len
  subst hn
  have h1 := own_setElem h hk (nv x)
  unfold Nums
  rw [List.map_set, List.length_set]
  exact h1
theorem Nums.at_ (h : Nums w B (.slice (some ⟨g, 0, none⟩) n c) l) {k : Nat} (hk : k < l.length) : w.cell? ⟨g, k, none⟩ = some (.int .i64 (l.getD k 0 : Nat)) := by
  obtain ⟨r, e, h1⟩ := h.cell hk
  cases e
  exact h1
theorem Nums.sput (h : Nums w B (.slice (some ⟨g, 0, none⟩) n c) l) : ∃ cs, Blk w g cs 3 := by
  have hn := h.len
  subst hn
  exact own_blk h
end
theorem set_mid (P : List Nat) (x y : Nat) (Q : List Nat) : (P ++ x :: Q).set P.length y = P ++ y :: Q := by simp
theorem get_mid (P : List Nat) (x : Nat) (Q : List Nat) : (P ++ x :: Q).getD P.length 0 = x := by simp [List.getD_eq_getElem?_getD]
theorem split_at {A : List Nat} {i : Nat} (hi : i < A.length) : A = A.take i ++ A.getD i 0 :: A.drop (i + 1) := by
  have h := List.take_append_drop i A
  rw [List.drop_eq_getElem_cons hi] at h
  rw [List.getD_eq_getElem?_getD, List.getElem?_eq_getElem hi]
  exact h.symm
/-- two rows of one length, so far exchanged -/
def swapL (X A M D Y : List Nat) (i : Nat) : List Nat := X ++ (D.take i ++ A.drop i) ++ M ++ (A.take i ++ D.drop i) ++ Y
theorem swap_step {X A M D Y : List Nat} {i a b : Nat} (hi : i < A.length) (hAD : A.length = D.length) (ha : X.length + i = a) (hb : X.length + A.length + M.length + i = b) :
    (swapL X A M D Y i).getD a 0 = A.getD i 0 ∧ (swapL X A M D Y i).getD b 0 = D.getD i 0 ∧ ((swapL X A M D Y i).set a (D.getD i 0)).set b (A.getD i 0) = swapL X A M D Y (i + 1) ∧ a < (swapL X A M D Y i).length ∧ b < (swapL X A M D Y i).length := by
  have hA := split_at hi
  have hD := split_at (A := D) (i := i) (by omega)
  have h1 : (A.take i).length = i := by rw [List.length_take]; omega
  have h2 : (D.take i).length = i := by rw [List.length_take]; omega
  have hA1 : A.drop i = A.getD i 0 :: A.drop (i + 1) := by rw [List.drop_eq_getElem_cons hi, List.getD_eq_getElem?_getD, List.getElem?_eq_getElem hi]; rfl
  have hD1 : D.drop i = D.getD i 0 :: D.drop (i + 1) := by rw [List.drop_eq_getElem_cons (by omega), List.getD_eq_getElem?_getD, List.getElem?_eq_getElem (by omega)]; rfl
  have hA2 : A.take (i + 1) = A.take i ++ [A.getD i 0] := by rw [List.take_succ_eq_append_getElem hi, List.getD_eq_getElem?_getD, List.getElem?_eq_getElem hi]; rfl
  have hD2 : D.take (i + 1) = D.take i ++ [D.getD i 0] := by rw [List.take_succ_eq_append_getElem (by omega), List.getD_eq_getElem?_getD, List.getElem?_eq_getElem (by omega)]; rfl
  have hl3 : (A.drop (i + 1)).length = A.length - (i + 1) := List.length_drop ..
  have e1 : swapL X A M D Y i = (X ++ D.take i) ++ A.getD i 0 :: (A.drop (i + 1) ++ M ++ A.take i ++ D.getD i 0 :: (D.drop (i + 1) ++ Y)) := by unfold swapL; rw [hA1, hD1]; simp
  have e2 : ∀ x, (X ++ D.take i) ++ x :: (A.drop (i + 1) ++ M ++ A.take i ++ D.getD i 0 :: (D.drop (i + 1) ++ Y)) = ((X ++ D.take i) ++ x :: (A.drop (i + 1) ++ M ++ A.take i)) ++ D.getD i 0 :: (D.drop (i + 1) ++ Y) := fun x => by simp
  have ha' : a = (X ++ D.take i).length := by rw [List.length_append, h2]; omega
  have hb' : ∀ x : Nat, b = ((X ++ D.take i) ++ x :: (A.drop (i + 1) ++ M ++ A.take i)).length := fun x => by simp only [List.length_append, List.length_cons, h1, h2, hl3]; omega
  refine ⟨?_, ?_, ?_, ?_, ?_⟩
  · rw [e1, ha', get_mid]
  · rw [e1, e2, hb' (A.getD i 0), get_mid]
  · rw [e1, ha', set_mid, e2, hb' (D.getD i 0), set_mid]
    unfold swapL
    rw [hA2, hD2]
    simp
  · rw [e1, ha']; simp
  · rw [e1, e2, hb' (A.getD i 0)]; simp
theorem swapL_zero (X A M D Y : List Nat) : swapL X A M D Y 0 = X ++ A ++ M ++ D ++ Y := by simp [swapL]
theorem swapL_all {X A M D Y : List Nat} (h : A.length = D.length) : swapL X A M D Y A.length = X ++ D ++ M ++ A ++ Y := by
  unfold swapL
  rw [List.take_of_length_le (show D.length ≤ A.length by omega), List.drop_of_length_le (Nat.le_refl _), List.take_of_length_le (Nat.le_refl _), List.drop_of_length_le (show D.length ≤ A.length by omega)]
  simp
set_option maxRecDepth 100000 in
set_option maxHeartbeats 1000000 in
theorem swapRange_any {w : World} {B g n c a b k : Nat} {X A M D Y : List Nat} (fv : Value) (h : Nums w B (.slice (some ⟨g, 0, none⟩) n c) (X ++ A ++ M ++ D ++ Y)) (hAD : A.length = D.length) (ha : X.length = a) (hb : X.length + A.length + M.length = b) (hk : A.length = k) (hn : n ≤ 1000) :
    Calls Try.prog 78 #[.slice (some ⟨g, 0, none⟩) n c, .int .i64 (a : Nat), .int .i64 (b : Nat), .int .i64 (k : Nat), fv] w fun e w' => e = .returned (.tuple #[]) ∧ Nums w' B (.slice (some ⟨g, 0, none⟩) n c) (X ++ D ++ M ++ A ++ Y) ∧ ButOf (fun x => x = g) w w' := by
  have hnl := h.len
  have hz := swapL_zero X A M D Y
  have hall := swapL_all (X := X) (M := M) (Y := Y) hAD
  have hlen : (X ++ A ++ M ++ D ++ Y).length = X.length + A.length + M.length + D.length + Y.length := by simp only [List.length_append]
  have hstep := fun i (hi : i < k) => swap_step (X := X) (A := A) (M := M) (D := D) (Y := Y) (i := i) (a := a + i) (b := b + i) (by omega) hAD (by omega) (by omega)
  have hbn : b + k ≤ n := by omega
  have hab : a + k ≤ b := by omega
  rw [← hz] at h
  rw [hk] at hall
  rw [← hall]
  generalize swapL X A M D Y = f at *
  replace hstep := Lib.hid hstep
  clear hz hall hlen hAD hnl hk ha hb
  go_enter Try.func78, Try.ntmps78
  go_wp2_with fail
  go_loopw [10] (fun v10 wr => ∃ i : Nat, i ≤ k ∧ v10 = .int .i64 i ∧ Nums wr B (.slice (some ⟨g, 0, none⟩) n c) (f i) ∧ ButOf (fun x => x = g) w wr) (fun v10 _ => k - (intOf v10).toNat)
  case atStart => exact ⟨0, Nat.zero_le _, rfl, h, ButOf.refl _ _⟩
  case round =>
    obtain ⟨i, hi, rfl, hN, hB⟩ := hrel
    by_cases hlt : i < k
    · have hltI : (i : Int) < (k : Int) := by omega
      have hms : k - (intOf (.int .i64 ((i : Int) + 1))).toNat < k - (intOf (.int .i64 (i : Int))).toNat := by simp [intOf]; omega
      replace hms := Lib.hid hms
      obtain ⟨s1, s2, s3, s4, s5⟩ := hstep.out i hlt
      have c1 := hN.at_ s4
      have c2 := hN.at_ s5
      rw [s1] at c1
      rw [s2] at c2
      have hN2 := (hN.set s4 (D.getD i 0)).set (k := b + i) (by rw [List.length_set]; exact s5) (A.getD i 0)
      rw [s3] at hN2
      generalize A.getD i 0 = x at *
      generalize D.getD i 0 = y at *
      obtain ⟨cs, kb⟩ := hN.sput
      have f1 := kb.free (a + i) none
      have f2 := kb.free (b + i) none
      have hB2 : ButOf (fun x => x = g) w ((wr.setCell ⟨g, a + i, none⟩ (.int .i64 (y : Nat))).setCell ⟨g, b + i, none⟩ (.int .i64 (x : Nat))) := (hB.set _ (Or.inl rfl)).set _ (Or.inl rfl)
      obtain ⟨p, hp⟩ : ∃ p, a + i = p := ⟨_, rfl⟩
      obtain ⟨q, hq⟩ : ∃ q, b + i = q := ⟨_, rfl⟩
      have hpI : (a : Int) + (i : Int) = (p : Int) := by omega
      have hqI : (b : Int) + (i : Int) = (q : Int) := by omega
      have hpn : (p : Int) < (n : Int) := by omega
      have hqn : (q : Int) < (n : Int) := by omega
      have hnI : (n : Int) ≤ 1000 := by omega
      rw [hp] at c1 f1 hN2 hB2
      rw [hq] at c2 f2 hN2 hB2
      obtain ⟨v', hy'⟩ := cell?_setCell_some (w := wr) (p := ⟨g, p, none⟩) (x := .int .i64 (y : Nat)) (q := ⟨g, q, none⟩) c2
      replace hp := Lib.hid hp
      replace hq := Lib.hid hq
      clear s1 s2 s3 s4 s5 kb hN hB
      go_wp2_with fail
      go_region
      go_wp2_with fail
      go_roundw
      case rel => exact ⟨i + 1, by omega, rfl, hN2.below (Below.refl _ _).drew, hB2.drew⟩
      case measure => exact hms.out
    · have hik : i = k := by omega
      subst hik
      clear hlt
      go_wp2_with fail
      go_end0
      exact ⟨rfl, hN, hB⟩
end Go.Proofs.Ytdfoimgckahjpaa
