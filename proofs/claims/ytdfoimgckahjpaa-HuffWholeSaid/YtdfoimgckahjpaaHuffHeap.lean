/-
  A table of codes in memory. No conditions.
-/
import Derived.Test.YtdfoimgckahjpaaHuffDec
import Derived.Test.YtdfoimgckahjpaaFrame
namespace Go.Proofs.Ytdfoimgckahjpaa
open Go.RowKit
/-- a number as a value -/
def nv (n : Nat) : Value := .int .i64 (n : Int)
/-- a table's cells -/
def tabV (lv cv ov : Value) (c : Nat → Nat) : Array Value :=
  #[.bool true, lv, cv, nv (c 0), nv (c 1), nv (c 2), nv (c 3), nv (c 4), nv (c 5), nv (c 6), nv (c 7), nv (c 8), nv (c 9), nv (c 10), nv (c 11), nv (c 12), nv (c 13), nv (c 14), nv (c 15), ov]
theorem lt16 {n : Nat} (h : n < 16) : n = 0 ∨ n = 1 ∨ n = 2 ∨ n = 3 ∨ n = 4 ∨ n = 5 ∨ n = 6 ∨ n = 7 ∨ n = 8 ∨ n = 9 ∨ n = 10 ∨ n = 11 ∨ n = 12 ∨ n = 13 ∨ n = 14 ∨ n = 15 := by omega
theorem tabV_count (lv cv ov : Value) (c : Nat → Nat) {n : Nat} (h : n < 16) : (tabV lv cv ov c)[3 + n]? = some (nv (c n)) := by
  rcases lt16 h with rfl | rfl | rfl | rfl | rfl | rfl | rfl | rfl | rfl | rfl | rfl | rfl | rfl | rfl | rfl | rfl <;> rfl
/-- one count anew -/
def upd (c : Nat → Nat) (n x : Nat) : Nat → Nat := fun k => if k = n then x else c k
theorem tabV_set (lv cv ov : Value) (c : Nat → Nat) (x : Nat) {n : Nat} (h : n < 16) : (tabV lv cv ov c).setIfInBounds (3 + n) (nv x) = tabV lv cv ov (upd c n x) := by
  rcases lt16 h with rfl | rfl | rfl | rfl | rfl | rfl | rfl | rfl | rfl | rfl | rfl | rfl | rfl | rfl | rfl | rfl <;> rfl
/-- a row of numbers, made above B -/
def Nums (w : World) (B : Nat) (v : Value) (l : List Nat) : Prop := w.ownsRow B 3 1 v l.length (l.map nv)
theorem Nums.nil (w : World) (B : Nat) : Nums w B (.slice none 0 0) [] := World.ownsRow_nil _ _ _ _
theorem Nums.below {w w' : World} {B : Nat} {v : Value} {l : List Nat} (h : Nums w B v l) (hb : Below w.heap.size w w') : Nums w' B v l := own_below h hb
theorem Nums.mono {w : World} {B B' : Nat} {v : Value} {l : List Nat} (h : Nums w B v l) (hb : B' ≤ B) : Nums w B' v l := own_mono h hb
theorem Nums.but {K : Nat → Prop} {w w' : World} {B : Nat} {v : Value} {l : List Nat} (h : Nums w B v l) (hb : ButOf K w w') (hn : ∀ k, v.ownBlock = some k → ¬ K k) : Nums w' B v l := own_but h hb hn
theorem Nums.len {w : World} {B : Nat} {a : Option Addr} {n c : Nat} {l : List Nat} (h : Nums w B (.slice a n c) l) : n = l.length := by
  rcases h.2 with ⟨h1, h0⟩ | ⟨g, cap, cur, h1, _⟩
  · cases h1; omega
  · cases h1; rfl
theorem Nums.cell {w : World} {B : Nat} {a : Option Addr} {n c : Nat} {l : List Nat} (h : Nums w B (.slice a n c) l) {j : Nat} (hj : j < l.length) :
    ∃ r, a = some ⟨r, 0, none⟩ ∧ w.cell? ⟨r, j, none⟩ = some (nv (l.getD j 0)) := by
  have hn := h.len
  subst hn
  obtain ⟨r, rfl⟩ := own_nonnil h (by omega)
  have h2 := World.ownsRow.cellAt h j (by omega)
  exact ⟨r, rfl, h2.trans (by simp [List.getD_eq_getElem?_getD, hj])⟩
theorem Nums.form {w : World} {B : Nat} {v : Value} {l : List Nat} (h : Nums w B v l) : ∃ a c, v = .slice a l.length c := by
  rcases h.2 with ⟨rfl, h0⟩ | ⟨g, cap, cur, rfl, _⟩
  · exact ⟨none, 0, by rw [h0]⟩
  · exact ⟨_, cap, rfl⟩
/-- all codes -/
def codesOf (L : List Nat) : List Nat := (List.range L.length).map (codeOf L)
theorem codesOf_length (L : List Nat) : (codesOf L).length = L.length := by simp [codesOf]
theorem codesOf_getD {L : List Nat} {i : Nat} (h : i < L.length) : (codesOf L).getD i 0 = codeOf L i := by
  simp [codesOf, List.getD_eq_getElem?_getD, h]
/-- are there just as many codes as may be? -/
def wholeB (L : List Nat) : Bool := decide (sumK L 15 = 32768) || (decide ((ord L 15).length = 0) || (decide ((ord L 15).length = 1) && decide (cnt L 1 = 1)))
theorem wholeB_iff (L : List Nat) : wholeB L = true ↔ Whole L := by simp [wholeB, Whole]
/-- a table: its block, its three rows -/
structure Tb (w : World) (b : Nat) (L : List Nat) : Prop where
  ex : ∃ B la lc ca cc oa oc, Blk w b (tabV (.slice la L.length lc) (.slice ca L.length cc) (.slice oa (ord L 15).length oc) (cnt L)) 84 ∧
    Nums w B (.slice la L.length lc) L ∧ Nums w B (.slice ca L.length cc) (codesOf L) ∧ Nums w B (.slice oa (ord L 15).length oc) (ord L 15)
  whole : Whole L
  le15 : ∀ i, i < L.length → L.getD i 0 ≤ 15
  few : L.length ≤ 320
theorem Tb.lt {w : World} {b : Nat} {L : List Nat} (h : Tb w b L) : b < w.heap.size := by
  obtain ⟨B, la, lc, ca, cc, oa, oc, h1, _⟩ := h.ex
  exact h1.lt
theorem Tb.below {w w' : World} {b : Nat} {L : List Nat} (h : Tb w b L) (hb : Below w.heap.size w w') : Tb w' b L := by
  obtain ⟨B, la, lc, ca, cc, oa, oc, h1, h2, h3, h4⟩ := h.ex
  exact ⟨⟨B, la, lc, ca, cc, oa, oc, h1.below hb h1.lt, h2.below hb, h3.below hb, h4.below hb⟩, h.whole, h.le15, h.few⟩
/-- another object, of another type, is written -/
theorem Tb.grown {w w' : World} {b k : Nat} {L : List Nat} {cs : Array Value} {T : TypeId} (h : Tb w b L) (hk : Blk w k cs T) (h1 : 84 ≠ T) (h2 : 3 ≠ T) (hg : w.grownBy w' (some k)) : Tb w' b L := by
  obtain ⟨B, la, lc, ca, cc, oa, oc, g1, g2, g3, g4⟩ := h.ex
  have hb : ButOf (· = k) w w' := ButOf.of_grown hg (fun i e => by cases e; rfl)
  exact ⟨⟨B, la, lc, ca, cc, oa, oc, g1.but hb (blk_ne g1 hk h1), g2.but hb (fun i hi e => own_blk_ne g2 hk h2 (by rw [hi, e])), g3.but hb (fun i hi e => own_blk_ne g3 hk h2 (by rw [hi, e])), g4.but hb (fun i hi e => own_blk_ne g4 hk h2 (by rw [hi, e]))⟩, h.whole, h.le15, h.few⟩
end Go.Proofs.Ytdfoimgckahjpaa
