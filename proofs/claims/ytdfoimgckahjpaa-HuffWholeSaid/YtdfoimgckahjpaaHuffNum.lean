/-
  The walk of number's closure, and of number. No conditions.
-/
import Derived.Test.YtdfoimgckahjpaaHuffWhole
import Derived.Test.YtdfoimgckahjpaaHuffCanon
import Derived.Test.YtdfoimgckahjpaaInts
import Derived.Test.YtdfoimgckahjpaaZed
import Derived.Deep.DeepCutAuto
namespace Go.Proofs.Ytdfoimgckahjpaa
open Go.RowKit
/-- the state of number's walk -/
structure Nb (w : World) (S b cb kt kc n : Nat) (lv : Value) (c : Nat → Nat) (C O : List Nat) (x : Nat) (ov : Value) : Prop where
  tab : Blk w b (tabV lv (.slice (some ⟨cb, 0, none⟩) n n) ov c) 84
  cod : Blk w cb (C.map nv).toArray 3
  clen : C.length = n
  box : Blk w kt #[.pointer (some ⟨b, 0, none⟩)] 31
  cnum : Blk w kc #[nv x] 3
  own : Nums w S ov O
  l1 : cb < S
  l2 : kc < S
  l3 : S ≤ w.heap.size
  n1 : cb ≠ kc
  l4 : b < S
  l5 : kt < S
section
variable {w w' : World} {S b cb kt kc n : Nat} {lv : Value} {c : Nat → Nat} {C O : List Nat} {x : Nat} {ov : Value}
theorem Nb.below (h : Nb w S b cb kt kc n lv c C O x ov) (hb : Below w.heap.size w w') : Nb w' S b cb kt kc n lv c C O x ov :=
  ⟨h.tab.below hb h.tab.lt, h.cod.below hb h.cod.lt, h.clen, h.box.below hb h.box.lt, h.cnum.below hb h.cnum.lt, h.own.below hb, h.l1, h.l2, Nat.le_trans h.l3 hb.size, h.n1, h.l4, h.l5⟩
theorem Nb.drew (h : Nb w S b cb kt kc n lv c C O x ov) : Nb w.drew S b cb kt kc n lv c C O x ov := h.below (Below.refl _ _).drew
theorem Nb.ownNe (h : Nb w S b cb kt kc n lv c C O x ov) {k : Nat} (hk : k < S) : ∀ j, ov.ownBlock = some j → j ≠ k := fun j hj e => by
  have := (h.own.lt j hj).1; omega
/-- a cell of another block is set -/
theorem Nb.setCod (h : Nb w S b cb kt kc n lv c C O x ov) (i y : Nat) : Nb (w.setCell ⟨cb, i, none⟩ (.int .i64 (y : Int))) S b cb kt kc n lv c (C.set i y) O x ov := by
  have hb : ButOf (· = cb) w (w.setCell ⟨cb, i, none⟩ (.int .i64 (y : Int))) := (ButOf.refl _ w).set _ (.inl rfl)
  exact ⟨h.tab.but hb (blk_ne h.tab h.cod (by decide)), h.cod.nset i y, by rw [List.length_set]; exact h.clen, h.box.but hb (blk_ne h.box h.cod (by decide)), h.cnum.but hb (Ne.symm h.n1), h.own.but hb (h.ownNe h.l1), h.l1, h.l2, Nat.le_trans h.l3 hb.size, h.n1, h.l4, h.l5⟩
theorem Nb.setNum (h : Nb w S b cb kt kc n lv c C O x ov) (y : Nat) : Nb (w.setCell ⟨kc, 0, none⟩ (.int .i64 (y : Int))) S b cb kt kc n lv c C O y ov := by
  have hb : ButOf (· = kc) w (w.setCell ⟨kc, 0, none⟩ (.int .i64 (y : Int))) := (ButOf.refl _ w).set _ (.inl rfl)
  exact ⟨h.tab.but hb (blk_ne h.tab h.cnum (by decide)), h.cod.but hb h.n1, h.clen, h.box.but hb (blk_ne h.box h.cnum (by decide)), h.cnum.set 0 _, h.own.but hb (h.ownNe h.l2), h.l1, h.l2, Nat.le_trans h.l3 hb.size, h.n1, h.l4, h.l5⟩
/-- the order's row has grown, and lies in the table -/
theorem Nb.app (h : Nb w S b cb kt kc n lv c C O x ov) {i : Nat} {v' : Value} (ho : Nums w' S v' (O ++ [i])) (hg : w.grownBy w' ov.ownBlock) : Nb (w'.setCell ⟨b, 19, none⟩ v') S b cb kt kc n lv c C (O ++ [i]) x v' := by
  have hb : ButOf (fun k => ov.ownBlock = some k) w w' := ButOf.of_grown hg (fun k e => e)
  have hne := fun k (hk : k < S) (e : ov.ownBlock = some k) => h.ownNe hk k e rfl
  have h1 : Blk w' b (tabV lv (.slice (some ⟨cb, 0, none⟩) n n) ov c) 84 := h.tab.but hb (hne b h.l4)
  have h2 := h.cod.but hb (hne cb h.l1)
  have h3 := h.box.but hb (hne kt h.l5)
  have h4 := h.cnum.but hb (hne kc h.l2)
  have hb2 : ButOf (· = b) w' (w'.setCell ⟨b, 19, none⟩ v') := (ButOf.refl _ w').set _ (.inl rfl)
  exact ⟨h1.set 19 v', h2.but hb2 (Ne.symm (blk_ne h.tab h.cod (by decide))), h.clen, h3.but hb2 (Ne.symm (blk_ne h.tab h.box (by decide))), h4.but hb2 (Ne.symm (blk_ne h.tab h.cnum (by decide))),
    ho.but hb2 (fun k hk e => by have := (ho.lt k hk).1; have := h.l4; omega), h.l1, h.l2, Nat.le_trans h.l3 (Nat.le_trans hg.size hb2.size), h.n1, h.l4, h.l5⟩
end
theorem own_form1 {w : World} {B E size n : Nat} {v : Value} {xs : List Value} (h : w.ownsRow B E size v n xs) : ∃ a c, v = .slice a n c := by
  rcases h.2 with ⟨rfl, rfl⟩ | ⟨g, cap, cur, rfl, _⟩
  · exact ⟨none, 0, rfl⟩
  · exact ⟨_, cap, rfl⟩
/-- what one call of the closure does -/
def Each (w : World) (S b cb kt kc n : Nat) (lv : Value) (c : Nat → Nat) (C O : List Nat) (x i : Nat) (e : Ending) (w' : World) : Prop :=
  ∃ ov', e = .returned (.tuple #[]) ∧ Nb w' S b cb kt kc n lv c (C.set i x) (O ++ [i]) (x + 1) ov' ∧ ButOf (fun k => k = b ∨ k = cb ∨ k = kc ∨ S ≤ k) w w'
set_option maxRecDepth 100000 in
set_option maxHeartbeats 4000000 in
theorem each_any {w : World} {S b cb kt kc n : Nat} {lv : Value} {c : Nat → Nat} {C O : List Nat} {x : Nat} {ov : Value} (h : Nb w S b cb kt kc n lv c C O x ov) {i : Nat} (hi : i < n) (hx : x ≤ 1000000) (hOl : O.length ≤ 10000) :
    Calls Try.prog 63 #[.int .i64 (i : Int), .pointer (some ⟨kc, 0, none⟩), .pointer (some ⟨kt, 0, none⟩)] w (Each w S b cb kt kc n lv c C O x i) := by
  obtain ⟨i0, hi0, hz0, hz1, hz2⟩ := info_parts info_int
  have hi' := Lib.hid hi0; clear hi0
  obtain ⟨oa, oc, rfl⟩ := h.own.form
  have hd := h.drew
  have c1 := hd.box.cell 0
  have c2 := hd.tab.cell 2
  have t2 : ∀ lv cv ov c, (tabV lv cv ov c)[2]? = some cv := fun _ _ _ _ => rfl
  have t19 : ∀ lv cv ov c, (tabV lv cv ov c)[19]? = some ov := fun _ _ _ _ => rfl
  rw [t2] at c2
  have c3 := hd.cnum.cell 0
  have c4 := hd.cod.nget (j := i) (by rw [h.clen]; exact hi)
  have f4 := hd.cod.free i none
  have hset := (h.setCod i x).drew
  have hbut1 : ButOf (fun k => k = b ∨ k = cb ∨ k = kc ∨ S ≤ k) w (w.setCell ⟨cb, i, none⟩ (.int .i64 (x : Int))).drew := ((ButOf.refl _ w).set _ (.inl (.inr (.inl rfl)))).drew
  simp only [List.getElem?_toArray, List.getElem?_cons_zero] at c1 c3
  unfold nv at c3 c4
  have hiI : (i : Int) < (n : Int) := by omega
  clear hd t2
  go_enter Try.func63, Try.ntmps63
  go_wp2_with fail
  go_still_tail 7, (by kernel_rfl)
  change wpList _ _ _ _ _ w.drew
  go_wp2_with fail
  clear c1 c2 c3 c4 f4
  generalize (w.setCell ⟨cb, i, none⟩ (.int .i64 (x : Int))).drew = w1 at *
  have hd1 := hset.drew
  have k1 := hd1.box.cell 0
  have k2 := hd1.tab.cell 19
  rw [t19] at k2
  simp only [List.getElem?_toArray, List.getElem?_cons_zero] at k1
  have hba := below_alloc (Below.refl w1.drew.heap.size w1.drew) (.cells #[.int .i64 (i : Int)] 3) (Nat.le_refl _)
  have k3 := (hd1.below hba).box.cell 0
  have k4 := (hd1.below hba).tab.cell 19
  rw [t19] at k4
  simp only [List.getElem?_toArray, List.getElem?_cons_zero] at k3
  have hO : w1.drew.ownsRow S 3 1 (.slice oa O.length oc) O.length (O.map nv) := hd1.own
  have hS1 : S ≤ w1.drew.heap.size := hd1.l3
  have hpost : ∀ v' w4, w4.ownsRow S 3 1 v' (O.length + 1) (O.map nv ++ [nv i]) → w1.drew.grownBy w4 (Value.slice oa O.length oc).ownBlock → Next w1.drew (.slice oa O.length oc) v' →
      w4.cell? ⟨kt, 0, none⟩ = some (.pointer (some ⟨b, 0, none⟩)) ∧ w4.cell? ⟨b, 19, none⟩ = some (.slice oa O.length oc) ∧ w4.frozen? ⟨b, 19, none⟩ = false ∧
      (w4.setCell ⟨b, 19, none⟩ v').cell? ⟨kc, 0, none⟩ = some (.int .i64 (x : Int)) ∧
      Nb (w4.setCell ⟨b, 19, none⟩ v') S b cb kt kc n lv c (C.set i x) (O ++ [i]) x v' ∧ ButOf (fun k => k = b ∨ k = cb ∨ k = kc ∨ S ≤ k) w (w4.setCell ⟨b, 19, none⟩ v') := by
    intro v' w4 ho4 hg4 _
    have ho5 : Nums w4 S v' (O ++ [i]) := by
      unfold Nums
      rw [List.length_append, List.map_append]
      exact ho4
    have hN := hd1.app ho5 hg4
    have hb : ButOf (fun k => (Value.slice oa O.length oc).ownBlock = some k) w1.drew w4 := ButOf.of_grown hg4 (fun k e => e)
    have hne := fun k (hk : k < S) (e : (Value.slice oa O.length oc).ownBlock = some k) => hd1.ownNe hk k e rfl
    have h1 := hd1.tab.but hb (hne b hd1.l4)
    have h3 := hd1.box.but hb (hne kt hd1.l5)
    have e1 := h3.cell 0
    have e2 := h1.cell 19
    rw [t19] at e2
    have e3 := hN.cnum.cell 0
    simp only [List.getElem?_toArray, List.getElem?_cons_zero] at e1 e3
    refine ⟨e1, e2, h1.free 19 none, e3, hN, ?_⟩
    refine ButOf.set ?_ _ (.inl (.inl rfl))
    exact hbut1.drew.trans (hb.mono (fun k _ e => .inr (.inr (.inr (hd1.own.lt k e).1))))
  replace hpost := Lib.hid hpost
  clear hset hd1 hba t19 h
  refine zed_start (S := fun W => W.cell? ⟨kt, 0, none⟩ = some (.pointer (some ⟨b, 0, none⟩)) ∧ W.cell? ⟨b, 19, none⟩ = some (.slice oa O.length oc)) (z := 10) (by kernel_rfl) ⟨k1, k2⟩ (fun hHeld => ?_)
  refine zed_take (i := 0) (v := ?_) rfl (by kernel_rfl) (by kernel_rfl) (by kernel_rfl) (by kernel_rfl) (by kernel_rfl) (fun _ _ _ h => h) (Or.inl ⟨by kernel_rfl, ?_⟩) (by assumption) ?_
  rotate_left
  · intro w hSw
    (try dsimp only at hSw)
    go_split_ands
    go_simp
    all_goals with_reducible rfl
  simp only [List.setIfInBounds_toArray, List.set_cons_zero, List.set_cons_succ]
  refine zed_take (i := 1) (v := ?_) rfl (by kernel_rfl) (by kernel_rfl) (by kernel_rfl) (by kernel_rfl) (by kernel_rfl) (fun _ _ _ h => h) (Or.inl ⟨by kernel_rfl, ?_⟩) (by assumption) ?_
  rotate_left
  · intro w hSw
    (try dsimp only at hSw)
    go_split_ands
    go_simp
    all_goals with_reducible rfl
  simp only [List.setIfInBounds_toArray, List.set_cons_zero, List.set_cons_succ]
  refine zed_take (i := 2) (v := ?_) rfl (by kernel_rfl) (by kernel_rfl) (by kernel_rfl) (by kernel_rfl) (by kernel_rfl) (fun _ _ _ h => h) (Or.inl ⟨by kernel_rfl, ?_⟩) (by assumption) ?_
  rotate_left
  · intro w hSw
    (try dsimp only at hSw)
    go_split_ands
    go_simp
    all_goals with_reducible rfl
  simp only [List.setIfInBounds_toArray, List.set_cons_zero, List.set_cons_succ]
  refine zed_take (i := 3) (v := ?_) rfl (by kernel_rfl) (by kernel_rfl) (by kernel_rfl) (by kernel_rfl) (by kernel_rfl) (fun _ _ _ h => h) (Or.inl ⟨by kernel_rfl, ?_⟩) (by assumption) ?_
  rotate_left
  · intro w hSw
    (try dsimp only at hSw)
    go_split_ands
    go_simp
    all_goals with_reducible rfl
  simp only [List.setIfInBounds_toArray, List.set_cons_zero, List.set_cons_succ]
  refine zed_take (i := 4) (v := ?_) rfl (by kernel_rfl) (by kernel_rfl) (by kernel_rfl) (by kernel_rfl) (by kernel_rfl) (fun _ _ _ h => h) (Or.inl ⟨by kernel_rfl, ?_⟩) (by assumption) ?_
  rotate_left
  · intro w hSw
    (try dsimp only at hSw)
    go_split_ands
    go_simp
    all_goals with_reducible rfl
  simp only [List.setIfInBounds_toArray, List.set_cons_zero, List.set_cons_succ]
  refine zed_take (i := 5) (v := ?_) rfl (by kernel_rfl) (by kernel_rfl) (by kernel_rfl) (by kernel_rfl) (by kernel_rfl) (fun _ _ _ h => h) (Or.inl ⟨by kernel_rfl, ?_⟩) (by assumption) ?_
  rotate_left
  · intro w hSw
    (try dsimp only at hSw)
    go_split_ands
    go_simp
    all_goals with_reducible rfl
  simp only [List.setIfInBounds_toArray, List.set_cons_zero, List.set_cons_succ]
  refine zed_do (i := 6) (by kernel_rfl) rfl (fun K hK => ?_)
  go_simp
  refine hK.out _ _ ?_ (fun hHeld => ?_)
  · exact ⟨k3, k4⟩
  clear hK K

  refine zed_do (i := 7) (by kernel_rfl) rfl (fun K hK => ?_)
  refine step_app1_at rfl _ _ 35 rfl S 3 i0 _ 8 Try.underlying35 hi'.out hz0 hz1 hz2 rfl (.slice oa O.length oc) O.length (O.map nv) rfl hO (nv i) rfl rfl ?c1 ?c2 hS1 ?_
  case c1 => unfold maxLen; omega
  case c2 => omega
  intro v' w4 ho4 hg4 hn4
  obtain ⟨a5, c5, rfl⟩ := own_form1 ho4
  obtain ⟨k5, k6, hs5, k7, h5, hB5⟩ := hpost.out _ w4 ho4 hg4 hn4
  refine hK.out _ _ ?_ (fun hHeld => ?_)
  · exact ⟨k5, k6⟩
  clear hK K
  simp only [Act.put, List.setIfInBounds_toArray, List.set_cons_zero, List.set_cons_succ]
  refine zed_take (i := 8) (v := ?_) rfl (by kernel_rfl) (by kernel_rfl) (by kernel_rfl) (by kernel_rfl) (by kernel_rfl) (fun _ _ _ h => h) (Or.inl ⟨by kernel_rfl, ?_⟩) (by assumption) ?_
  rotate_left
  · intro w hSw
    (try dsimp only at hSw)
    go_split_ands
    go_simp
    all_goals with_reducible rfl
  simp only [List.setIfInBounds_toArray, List.set_cons_zero, List.set_cons_succ]
  refine zed_take (i := 9) (v := ?_) rfl (by kernel_rfl) (by kernel_rfl) (by kernel_rfl) (by kernel_rfl) (by kernel_rfl) (fun _ _ _ h => h) (Or.inl ⟨by kernel_rfl, ?_⟩) (by assumption) ?_
  rotate_left
  · intro w hSw
    (try dsimp only at hSw)
    go_split_ands
    go_simp
    all_goals with_reducible rfl
  simp only [List.setIfInBounds_toArray, List.set_cons_zero, List.set_cons_succ]
  refine zed_end (by kernel_rfl) rfl (fun K hK => ?_)
  go_simp
  refine hK.out _ _ ?_
  clear hK K
  refine zed_done (by kernel_rfl) ?_ _
  have f7 := h5.cnum.free 0 none
  have h6 := h5.setNum (x + 1)
  have hB6 := hB5.set (b := kc) (o := 0) (.int .i64 ((x + 1 : Nat) : Int)) (.inl (.inr (.inr (.inl rfl))))
  rw [Int.natCast_add] at h6 hB6
  clear h5 hB5 hg4 hn4 ho4 k1 k2 k3 k4 k5 k6 hpost hO
  go_wp2_with fail
  go_end0
  exact ⟨_, rfl, h6, hB6⟩
theorem symsTo_le (L : List Nat) (n : Nat) : ∀ k, (symsTo L n k).length ≤ k
  | 0 => by simp [symsTo]
  | k + 1 => by
    have := symsTo_le L n k
    rw [symsTo_succ, List.length_append]
    split <;> simp <;> omega
/-- what number does -/
def Numbered (w : World) (b cb : Nat) (lv : Value) (L : List Nat) (e : Ending) (w' : World) : Prop :=
  ∃ ov, e = .returned (.tuple #[]) ∧ Blk w' b (tabV lv (.slice (some ⟨cb, 0, none⟩) L.length L.length) ov (cnt L)) 84 ∧ Blk w' cb ((codesOf L).map nv).toArray 3 ∧
    Nums w' w.heap.size ov (ord L 15) ∧ ButOf (fun k => k = b ∨ k = cb ∨ w.heap.size ≤ k) w w'
set_option maxRecDepth 100000 in
set_option maxHeartbeats 8000000 in
theorem hnumber_any {w : World} {b cb B : Nat} {lv : Value} {L : List Nat} (hb : Blk w b (tabV lv (.slice (some ⟨cb, 0, none⟩) L.length L.length) (.slice none 0 0) (cnt L)) 84)
    (hc : Blk w cb ((List.replicate L.length 0).map nv).toArray 3) (hl : Nums w B lv L) (hlc : lv.ownBlock ≠ some cb) (h3 : L.length ≤ 320) (h15 : ∀ i, i < L.length → L.getD i 0 ≤ 15) (hW : Whole L) :
    Calls Try.prog 54 #[.pointer (some ⟨b, 0, none⟩)] w (Numbered w b cb lv L) := by
  have hmf : ∀ (fn : Fn) (first cap : Array Value) (w : World), (Instr.makeFunc fn first cap).run Try.prog w = .ok (.func fn first cap) w := fun _ _ _ _ => rfl
  obtain ⟨la, lc, rfl⟩ := hl.form
  have hlb := own_blk_ne hl hb (by decide)
  have hlens : ∀ wr, ButOf (fun k => k = b ∨ k = cb ∨ w.heap.size ≤ k) w wr → Nums wr B (.slice la L.length lc) L := fun wr hr => hl.but hr (fun k hk e => by
    rcases e with e | e | e
    · exact hlb (by rw [hk, e])
    · exact hlc (by rw [hk, e])
    · have := (hl.lt k hk).2; omega)
  replace hlens := Lib.hid hlens
  have t1 : ∀ lv cv ov c, (tabV lv cv ov c)[1]? = some lv := fun _ _ _ _ => rfl
  have t1' := Lib.hid t1
  clear t1
  have hcl := fun n => cnt_le h3 n
  have hol := Lib.hid (ord_len_le L hcl)
  have hfl := Lib.hid (fun n (hn : n ≤ 15) => fst_le hW hn)
  have hbut0 : ButOf (fun k => k = b ∨ k = cb ∨ w.heap.size ≤ k) w ((w.alloc (.cells #[.pointer (some ⟨b, 0, none⟩)] 31)).alloc (.cells #[.int .i64 0] 3)) :=
    ButOf.of_below (below_alloc (below_alloc (Below.refl _ _) _ (Nat.le_refl _)) _ (Nat.le_refl _))
  have hN0 : Nb ((w.alloc (.cells #[.pointer (some ⟨b, 0, none⟩)] 31)).alloc (.cells #[.int .i64 0] 3)) (w.heap.size + 2) b cb w.heap.size (w.heap.size + 1) L.length (.slice la L.length lc) (cnt L) (codesAt L 1 0) (ord L 0) 0 (.slice none 0 0) := by
    have h1 := below_alloc (Below.refl w.heap.size w) (.cells #[.pointer (some ⟨b, 0, none⟩)] 31) (Nat.le_refl _)
    have h2 := below_alloc h1 (.cells #[.int .i64 0] 3) (Nat.le_refl _)
    have s1 := alloc_size w (.cells #[.pointer (some ⟨b, 0, none⟩)] 31)
    have s2 := alloc_size (w.alloc (.cells #[.pointer (some ⟨b, 0, none⟩)] 31)) (.cells #[.int .i64 0] 3)
    have hb1 := hb.lt
    have hb2 := hc.lt
    have n1 := Blk.new (w.alloc (.cells #[.pointer (some ⟨b, 0, none⟩)] 31)) #[.int .i64 0] 3
    rw [s1] at n1
    have n2 := (Blk.new w #[.pointer (some ⟨b, 0, none⟩)] 31).below (below_alloc (Below.refl (w.alloc (.cells #[.pointer (some ⟨b, 0, none⟩)] 31)).heap.size _) (.cells #[.int .i64 0] 3) (Nat.le_refl _)) (by rw [s1]; omega)
    exact ⟨hb.below h2 hb1, by rw [codesAt_start]; exact hc.below h2 hb2, codesAt_length _ _ _, n2, n1, Nums.nil _ _, by omega, by omega, by rw [s2, s1]; omega, by omega, by omega, by omega⟩
  clear hb hc hlb hlc hl
  go_enter Try.func54, Try.ntmps54
  go_wp2_with fail
  generalize (w.alloc (.cells #[.pointer (some ⟨b, 0, none⟩)] 31)).alloc (.cells #[.int .i64 0] 3) = w1 at *
  generalize hkt : w.heap.size = kt at *
  generalize hkc : kt + 1 = kc at *
  go_loopw [3] (fun i wr => ∃ (n x : Nat) (ov : Value), n ≤ 15 ∧ i = .int .i64 ((n + 1 : Nat) : Int) ∧ Nb wr (kt + 2) b cb kt kc L.length (.slice la L.length lc) (cnt L) (codesAt L (n + 1) 0) (ord L n) x ov ∧ x = fst L n + cnt L n ∧ ButOf (fun k => k = b ∨ k = cb ∨ kt ≤ k) w wr) (fun i _ => 17 - (intOf i).toNat)
  case atStart => exact ⟨0, 0, _, by omega, rfl, hN0, rfl, hbut0⟩
  case round =>
    clear hN0 hbut0
    obtain ⟨n, x, ov, hn, rfl, hN, hx, hbut⟩ := hrel
    by_cases hlt : n + 1 ≤ 15
    · have hltI : (n : Int) + 1 ≤ 15 := by omega
      have hx2 := hfl.out n (by omega)
      have hx3 := Nat.pow_le_pow_right (show 0 < 2 by decide) (show n ≤ 15 by omega)
      have hxb : x ≤ 32768 := by omega
      have c1 := hN.cnum.cell 0
      have f1 := hN.cnum.free 0 none
      simp only [List.getElem?_toArray, List.getElem?_cons_zero] at c1
      unfold nv at c1
      have hN2 := hN.setNum (x * 2)
      have hbut2 := hbut.set (b := kc) (o := 0) (.int .i64 ((x * 2 : Nat) : Int)) (.inl (.inr (.inr (by omega))))
      rw [Int.natCast_mul, show ((2 : Nat) : Int) = 2 from rfl] at hN2 hbut2
      have hx4 : x * 2 = fst L (n + 1) + (L.take 0).count (n + 1) := by rw [fst, hx]; simp; omega
      have c2 := hN2.box.cell 0
      have c3 := hN2.tab.cell 1
      rw [t1'.out] at c3
      simp only [List.getElem?_toArray, List.getElem?_cons_zero] at c2
      rw [show ord L n = ord L (n + 1 - 1) ++ symsTo L (n + 1) 0 by simp [symsTo]] at hN2
      clear hx2 hx3 hx hN hbut
      generalize x * 2 = x2 at *
      go_upto_region 6 with fail
      generalize wr.setCell ⟨kc, 0, none⟩ (.int .i64 ((x : Int) * 2)) = w2 at *
      clear c1 f1
      go_wp2_with fail
      go_loopw [19] (fun i wr => ∃ (k x : Nat) (ov : Value), k ≤ L.length ∧ i = .int .i64 (k : Nat) ∧ Nb wr (kt + 2) b cb kt kc L.length (.slice la L.length lc) (cnt L) (codesAt L (n + 1) k) (ord L (n + 1 - 1) ++ symsTo L (n + 1) k) x ov ∧ x = fst L (n + 1) + (L.take k).count (n + 1) ∧ ButOf (fun k => k = b ∨ k = cb ∨ kt ≤ k) w wr) (fun i _ => L.length - (intOf i).toNat)
      case atStart => exact ⟨0, x2, _, by omega, rfl, hN2, hx4, hbut2⟩
      case round =>
        clear hN2 hbut2 c2 c3 hx4
        obtain ⟨k, y, ov, hk, rfl, hN, hy, hbut⟩ := hrel
        by_cases hlt2 : k < L.length
        · obtain ⟨r, rfl, g1⟩ := (hlens.out wr hbut).cell hlt2
          unfold nv at g1
          have hr1 := rank_lt hlt2
          have hxb2 : (L.take k).count (n + 1) ≤ cnt L (n + 1) := by rw [cnt_pos (by omega)]; exact List.Sublist.count_le _ (List.take_sublist _ _)
          have hx2 := hfl.out (n + 1) hlt
          have hx3 := Nat.pow_le_pow_right (show 0 < 2 by decide) hlt
          have ho1 := hol.out n
          have ho2 := symsTo_le L (n + 1) k
          by_cases hm : L.getD k 0 = n + 1
          · have hcs := codesAt_hit hlt2 (show 0 < n + 1 by omega) hm
            rw [← hy] at hcs
            have hsy := symsTo_succ L (n + 1) k
            rw [if_pos hm] at hsy
            have hct := count_take_hit hlt2 hm
            rw [hm] at g1
            have hE := each_any hN hlt2 (by omega) (by simp; omega)
            replace hcs := Lib.hid hcs
            replace hsy := Lib.hid hsy
            have hy2 : y + 1 = fst L (n + 1) + (L.take (k + 1)).count (n + 1) := by rw [hct]; omega
            replace hy2 := Lib.hid hy2
            clear hm hct hN hr1 hxb2 hx2 hx3 ho1 ho2 hy
            go_wp2_with fail
            refine hE.mono ?_
            rintro e w3 ⟨ov', rfl, hN3, hb3⟩
            rw [← hcs.out, List.append_assoc, ← hsy.out] at hN3
            clear hcs hsy
            have hbut3 := hbut.trans (hb3.mono (K' := fun k => k = b ∨ k = cb ∨ kt ≤ k) (fun j _ hj => by omega))
            clear hbut hb3 hE
            go_wp2_with fail
            go_roundw
            case rel => exact ⟨_, _, _, _, _, _, _, _, _, _, _, _, _, _, ⟨k + 1, y + 1, ov', by omega, by go_num, hN3, hy2.out, hbut3⟩, rfl⟩
            case measure => simp [intOf]; omega
          · generalize hX : L.getD k 0 = X at *
            have hmI : ((X : Int) == ((n + 1 : Nat) : Int)) = false := by rw [beq_eq_false_iff_ne]; omega
            rw [← codesAt_miss (i := k) (by rw [hX]; exact hm)] at hN
            have hsy := symsTo_succ L (n + 1) k
            rw [if_neg (by rw [hX]; exact hm), List.append_nil] at hsy
            rw [← hsy] at hN
            rw [← count_take_miss hlt2 (by rw [hX]; exact hm)] at hy
            clear hX hsy hr1 hxb2 hx2 hx3 ho1 ho2
            go_wp2_with fail
            go_roundw
            case rel => exact ⟨k + 1, y, ov, by omega, by go_num, hN, hy, hbut⟩
            case measure => simp [intOf]; omega
        · obtain rfl : k = L.length := by omega
          rw [codesAt_level] at hN
          rw [List.take_length, ← cnt_pos (L := L) (show 0 < n + 1 by omega)] at hy
          have hN' : Nb wr (kt + 2) b cb kt kc L.length (.slice la L.length lc) (cnt L) (codesAt L (n + 1 + 1) 0) (ord L (n + 1)) y ov := hN
          clear hN
          go_wp2_with fail
          go_roundw
          case rel => exact ⟨n + 1, y, ov, by omega, by go_num, hN', hy, hbut⟩
          case measure => simp [intOf]; omega
    · obtain rfl : n = 15 := by omega
      go_wp2_with fail
      go_end0
      exact ⟨ov, rfl, hN.tab, by rw [← codesAt_end h15]; exact hN.cod, by rw [hkt]; exact hN.own.mono (by omega), by rw [hkt]; exact hbut⟩
end Go.Proofs.Ytdfoimgckahjpaa
