/-
  The walks of a writer of bits: what it has, its end of a byte, whole bytes. Conditions: it is one that was made.
-/
import Derived.Test.YtdfoimgckahjpaaBitsAt
import Derived.Test.YtdfoimgckahjpaaBitsPk
import Derived.Test.YtdfoimgckahjpaaFrame
namespace Go.Proofs.Ytdfoimgckahjpaa
open Go.RowKit
/-- a writer: its block, its row, the bits that it has -/
structure Wr (w : World) (S b : Nat) (v : Value) (high : Bool) (fs : List Bool) : Prop where
  blk : Blk w b #[v, .int .i64 (fs.length : Int), placeV high] 85
  own : w.ownsRow S 5 1 v ((fs.length + 7) / 8) ((packB high fs).map bv)
  few : fs.length ≤ 1099511627776
section
variable {w w' : World} {S b : Nat} {v : Value} {high : Bool} {fs : List Bool}
theorem Wr.lt (h : Wr w S b v high fs) : b < w.heap.size := h.blk.lt
theorem Wr.made (h : Wr w S b v high fs) :
    Calls Try.prog 55 #[.pointer (some ⟨b, 0, none⟩)] w fun e w' => e = .returned (.bool true) ∧ w = w' := made_w b _ high w h.blk rfl
theorem Wr.but {K : Nat → Prop} (h : Wr w S b v high fs) (hb : ButOf K w w') (h1 : ¬ K b) (h2 : ∀ k, v.ownBlock = some k → ¬ K k) : Wr w' S b v high fs :=
  ⟨h.blk.but hb h1, own_but h.own hb h2, h.few⟩
theorem Wr.below (h : Wr w S b v high fs) (hb : Below w.heap.size w w') : Wr w' S b v high fs :=
  ⟨h.blk.below hb h.lt, own_below h.own hb, h.few⟩
/-- a writer's row, and its length in whole bytes -/
theorem Wr.shape (h : Wr w S b v high fs) : ∃ a c, v = .slice a ((fs.length + 7) / 8) c ∧ Bts w a ((fs.length + 7) / 8) c (packB high fs) := by
  obtain ⟨a, c, e, hB⟩ := Bts.of_own h.own (by have := h.few; omega)
  exact ⟨a, c, e, hB⟩
theorem Wr.foot (h : Wr w S b v high fs) (hS : S ≤ b) : ∀ k, Foot b v k → S ≤ k ∧ k < w.heap.size := by
  intro k hk
  rcases hk with rfl | e
  · exact ⟨hS, h.lt⟩
  · exact h.own.lt k e
theorem Wr.ne (h : Wr w S b v high fs) : v.ownBlock ≠ some b := own_blk_ne h.own h.blk (by decide)
theorem len_any (h : Wr w S b v high fs) :
    Calls Try.prog 24 #[.pointer (some ⟨b, 0, none⟩)] w fun e w' => e = .returned (.int .i64 (fs.length : Int)) ∧ w = w' := by
  have g1 := h.blk.cell 1
  simp at g1
  go_enter Try.func24, Try.ntmps24
  go_wp2_with (go_at_call 55; refine h.made.mono ?_; rintro e w' ⟨rfl, rfl⟩)
  go_ret
  exact ⟨rfl, rfl⟩
/-- what NewWriter answers -/
def MadeWr (w : World) (high : Bool) (e : Ending) (w' : World) : Prop :=
  e = .returned (.pointer (some ⟨w.heap.size, 0, none⟩)) ∧ Wr w' w.heap.size w.heap.size (.slice none 0 0) high [] ∧ Below w.heap.size w w'
theorem new_writer (high : Bool) (w : World) : Calls Try.prog 21 #[.bool high] w (MadeWr w high) := by
  have hmf : ∀ (fn : Fn) (first cap : Array Value) (w : World), (Instr.makeFunc fn first cap).run Try.prog w = .ok (.func fn first cap) w := fun _ _ _ _ => rfl
  go_enter Try.func21, Try.ntmps21
  go_wp2_with fail
  go_ret
  exact ⟨rfl, ⟨Blk.new w _ _, World.ownsRow_nil _ _ _ _, by simp⟩, below_alloc (Below.refl _ _) _ (Nat.le_refl _)⟩
/-- what a writing call leaves -/
def Wrote (w : World) (S b : Nat) (v : Value) (high : Bool) (fs : List Bool) (r : Value) (e : Ending) (w' : World) : Prop :=
  ∃ v', e = .returned r ∧ Wr w' S b v' high fs ∧ ButOf (Foot b v) w w' ∧ Next w v v'
theorem walign_any (h : Wr w S b v high fs) (hroom : fs.length ≤ 1099511627768) :
    Calls Try.prog 29 #[.pointer (some ⟨b, 0, none⟩)] w (Wrote w S b v high (fill8 fs) (.tuple #[])) := by
  obtain ⟨a, c, rfl, hB⟩ := h.shape
  have g0 := h.blk.cell 0
  have g1 := h.blk.cell 1
  have f1 := h.blk.free 1 none
  simp at g0 g1
  have hs := h.blk.set 1 (.int .i64 (8 * (((fs.length + 7) / 8 : Nat) : Int)))
  have hne := h.ne
  have hfin : Wrote w S b (.slice a ((fs.length + 7) / 8) c) high (fill8 fs) (.tuple #[]) (.returned (.tuple #[])) (w.setCell ⟨b, 1, none⟩ (.int .i64 (8 * (((fs.length + 7) / 8 : Nat) : Int)))) := by
    have hl := fill8_length fs
    refine ⟨_, rfl, ⟨?_, ?_, by omega⟩, (ButOf.refl _ _).set _ (.inl (.inl rfl)), Next.refl _ _⟩
    · rw [hl, show ((8 * ((fs.length + 7) / 8) : Nat) : Int) = 8 * (((fs.length + 7) / 8 : Nat) : Int) by omega]; exact hs
    · rw [packB_fill8, hl, show (8 * ((fs.length + 7) / 8) + 7) / 8 = (fs.length + 7) / 8 by omega]
      exact own_but h.own ((ButOf.refl (· = b) w).set _ (.inl rfl)) (fun k hk e => hne (by rw [hk, e]))
  have hfin' := Lib.hid hfin; clear hfin hs hne
  go_enter Try.func29, Try.ntmps29
  go_wp2_with (go_at_call 55; refine h.made.mono ?_; rintro e w' ⟨rfl, rfl⟩)
  go_end0
  exact hfin'.out
/-- what Bytes of a writer answers -/
def WroteOut (w : World) (l : List UInt8) (e : Ending) (w' : World) : Prop :=
  ∃ a c, e = .returned (.slice a l.length c) ∧ w'.ownsRow w.heap.size 5 1 (.slice a l.length c) l.length (l.map bv) ∧ Below w.heap.size w w'
theorem wbytes_any (h : Wr w S b v high fs) :
    Calls Try.prog 23 #[.pointer (some ⟨b, 0, none⟩)] w (WroteOut w (packB high fs)) := by
  obtain ⟨a, c, rfl, hB⟩ := h.shape
  have hl := packB_length high fs
  have hf := h.few
  have g0 := h.blk.cell 0
  simp at g0
  obtain ⟨i0, hi, hz0, hz1, hz2⟩ := info_parts Try.info5
  have hi' := Lib.hid hi; clear hi
  go_enter Try.func23, Try.ntmps23
  go_wp2_with (first | (go_at_call 55; refine h.made.mono ?_; rintro e w' ⟨rfl, rfl⟩) | (at_builtin; go_must (refine wp_appB rfl _ _ 22 rfl w.heap.size 5 i0 _ 1 Try.underlying22 hi'.out hz0 hz1 hz2 rfl _ 0 [] rfl (World.ownsRow_nil _ _ _ _) a ((fs.length + 7) / 8) c _ rfl hB (by unfold maxLen; omega) (by omega) (Nat.le_refl _) ?_)))
  intro v1 w1 ho hg
  have hb := below_grown (Below.refl w.heap.size w) (World.ownsRow_nil w w.heap.size 5 1) hg (Nat.le_refl _)
  clear hg
  have ho2 := own_congr (n' := (packB high fs).length) (xs' := (packB high fs).map bv) ho (by omega) (by simp)
  obtain ⟨a1, c1, rfl, -⟩ := Bts.of_own ho2 (by omega)
  go_wp2_with fail
  go_ret
  exact ⟨a1, c1, rfl, ho2, hb⟩
theorem wadd_fin {w w1 : World} {S b n2 : Nat} {v v1 : Value} {high : Bool} {fs : List Bool} {l : List UInt8} (h : Wr w S b v high fs) (hn : l.length = n2) (hroom : fs.length + 8 * n2 ≤ 1099511627768)
    (ho1 : w1.ownsRow S 5 1 v1 ((fs.length + 7) / 8 + n2) ((packB high fs).map bv ++ l.map bv)) (hg1 : w.grownBy w1 v.ownBlock) (hn1 : Next w v v1) :
    Blk w1 b #[v, .int .i64 (fs.length : Int), placeV high] 85 ∧
    Wrote w S b v high (fill8 fs ++ unpackB high l) (.tuple #[]) (.returned (.tuple #[])) ((w1.setCell ⟨b, 0, none⟩ v1).setCell ⟨b, 1, none⟩ (.int .i64 (8 * (((fs.length + 7) / 8 + n2 : Nat) : Int)))) := by
  have hb1 : Blk w1 b #[v, .int .i64 (fs.length : Int), placeV high] 85 := h.blk.grown hg1 (fun e => h.ne e.symm)
  have hne := own_blk_ne ho1 hb1 (by decide)
  have hl : (fill8 fs ++ unpackB high l).length = 8 * ((fs.length + 7) / 8 + n2) := by rw [List.length_append, fill8_length, unpackB_length, hn]; omega
  refine ⟨hb1, v1, rfl, ⟨?_, ?_, by omega⟩, ((ButOf.of_grown hg1 (fun k hk => .inr hk)).set _ (.inl (.inl rfl))).set _ (.inl (.inl rfl)), hn1⟩
  · rw [hl, show ((8 * ((fs.length + 7) / 8 + n2) : Nat) : Int) = 8 * (((fs.length + 7) / 8 + n2 : Nat) : Int) by omega]
    exact (hb1.set 0 v1).set 1 _
  · rw [packB_add, hl, show (8 * ((fs.length + 7) / 8 + n2) + 7) / 8 = (fs.length + 7) / 8 + n2 by omega, List.map_append]
    exact own_but ho1 (((ButOf.refl (· = b) w1).set _ (.inl rfl)).set _ (.inl rfl)) (fun k hk e => hne (by rw [hk, e]))
theorem wadd_any (h : Wr w S b v high fs) (a2 : Option Addr) (n2 c2 : Nat) (l : List UInt8) (hB2 : Bts w a2 n2 c2 l) (hroom : fs.length + 8 * n2 ≤ 1099511627768) (hS : S ≤ w.heap.size) :
    Calls Try.prog 31 #[.pointer (some ⟨b, 0, none⟩), .slice a2 n2 c2] w (Wrote w S b v high (fill8 fs ++ unpackB high l) (.tuple #[])) := by
  have hl2 := hB2.len
  have g0 := h.blk.cell 0
  simp at g0
  obtain ⟨i0, hi, hz0, hz1, hz2⟩ := info_parts Try.info5
  have hi' := Lib.hid hi; clear hi
  go_enter Try.func31, Try.ntmps31
  go_wp2_with (first | (go_at_call 55; refine h.made.mono ?_; rintro e w' ⟨rfl, rfl⟩) | (at_builtin; go_must (refine wp_appB_at rfl _ _ 22 rfl S 5 i0 _ 1 Try.underlying22 hi'.out hz0 hz1 hz2 rfl v ((fs.length + 7) / 8) ((packB high fs).map bv) rfl h.own a2 n2 c2 l rfl hB2 (by unfold maxLen; omega) (by omega) hS ?_)))
  intro v1 w1 ho1 hg1 hn1
  obtain ⟨a1, c1, rfl, -⟩ := Bts.of_own (l := packB high fs ++ l) (own_congr (n' := (fs.length + 7) / 8 + n2) ho1 rfl (by simp)) (by omega)
  obtain ⟨hb1, hfin⟩ := wadd_fin h hl2 hroom ho1 hg1 hn1
  have hfin' := Lib.hid hfin; clear hfin
  have gc0 := hb1.cell 0
  have gc1 := hb1.cell 1
  have gf0 := hb1.free 0 none
  have gf1 := hb1.free 1 none
  simp only [List.getElem?_toArray, List.getElem?_cons_zero, List.getElem?_cons_succ] at gc0 gc1
  have hb1s := hb1.set 0 (.slice a1 ((fs.length + 7) / 8 + n2) c1)
  have hc0 := hb1s.cell 0
  have hc1 := hb1s.cell 1
  have hf1 := hb1s.free 1 none
  simp only [List.setIfInBounds_toArray, List.set_cons_zero, List.getElem?_toArray, List.getElem?_cons_zero, List.getElem?_cons_succ] at hc0 hc1
  clear hb1 hb1s g0 hB2 ho1 hg1
  go_wp2_with fail
  go_end0
  exact hfin'.out
end
end Go.Proofs.Ytdfoimgckahjpaa
