/-
  The fragments of each link, as a slice of slices of rows: growing; then cut at their fronts. A row of rows that came in. No conditions.
-/
import Derived.Test.YtglmlhbchfgliaaMuAppF
import Derived.Test.YtglmlhbchfgliaaMuFrames
import Derived.Test.YtglmlhbchfgliaaMuAw
namespace Go.Proofs.Ytglmlhbchfgliaa
open Go.RowKit Go.Maps
theorem Fr.oth {w w' : World} {B B' n : Nat} {v vo : Value} {xs : List Value} {L : List (List UInt8)} (h : Fr w B v L) (ho : w.ownsRow B' 27 1 vo n xs) (hg : w.grownBy w' vo.ownBlock) (hne : ∀ k, v.ownBlock = some k → vo.ownBlock ≠ some k) : Fr w' B v L := by
  obtain ⟨ys, h1, h2⟩ := h.ex
  have hb : ButOf (fun k => vo.ownBlock = some k) w w' := ButOf.of_grown hg (fun _ e => e)
  refine ⟨ys, own_but h1 hb (fun k hk => hne k hk), h2.but hb (fun x hx k hk => ?_)⟩
  obtain ⟨l', hl'⟩ := h2.mem x hx
  exact own_own_ne hl' ho (by decide) hk
/-- a cell of another row, of another kind, is written -/
theorem Fr.setq {w : World} {B B' g n c i : Nat} {v x : Value} {xs : List Value} {L : List (List UInt8)} (h : Fr w B v L) (ho : w.ownsRow B' 23 1 (.slice (some ⟨g, 0, none⟩) n c) n xs) : Fr (w.setCell ⟨g, i, none⟩ x) B v L := by
  obtain ⟨ys, h1, h2⟩ := h.ex
  have hb : ButOf (fun k => k = g) w (w.setCell ⟨g, i, none⟩ x) := (ButOf.refl _ w).set _ (Or.inl rfl)
  refine ⟨ys, own_but h1 hb (fun k hk e => own_own_ne h1 ho (by decide) hk (by rw [e]; rfl)), h2.but hb (fun y hy k hk e => ?_)⟩
  obtain ⟨l', hl'⟩ := h2.mem y hy
  exact own_own_ne hl' ho (by decide) hk (by rw [e]; rfl)
def updV (qs : Nat → Value) (i : Nat) (v : Value) (j : Nat) : Value := if j = i then v else qs j
def updR (rows : Nat → List (List UInt8)) (i : Nat) (l : List UInt8) (j : Nat) : List (List UInt8) := if j = i then rows j ++ [l] else rows j
theorem range_upd {qs : Nat → Value} {i n : Nat} {v : Value} : (List.range n).map (updV qs i v) = ((List.range n).map qs).set i v := by
  refine List.ext_getElem? (fun j => ?_)
  by_cases hj : j = i
  · subst hj
    by_cases hl : j < n
    · rw [List.getElem?_set_self (by simpa using hl), List.getElem?_map, List.getElem?_range hl]
      simp [updV]
    · rw [List.getElem?_eq_none (by simpa using hl), List.getElem?_eq_none (by simpa using hl)]
  · rw [List.getElem?_set_ne (fun e => hj e.symm), List.getElem?_map, List.getElem?_map]
    by_cases hl : j < n
    · rw [List.getElem?_range hl]; simp [updV, hj]
    · rw [List.getElem?_eq_none (by simpa using hl)]; rfl
theorem range_cell {qs : Nat → Value} {i n : Nat} (hi : i < n) : ((List.range n).map qs)[i]? = some (qs i) := by rw [List.getElem?_map, List.getElem?_range hi]; rfl
/-- the rows of the links -/
structure Qs (w : World) (B gq links : Nat) (qs : Nat → Value) (rows : Nat → List (List UInt8)) : Prop where
  row : w.ownsRow B 23 1 (.slice (some ⟨gq, 0, none⟩) links links) links ((List.range links).map qs)
  fr : ∀ i, i < links → Fr w B (qs i) (rows i)
  sep : ∀ i j k, i < links → j < links → i ≠ j → (qs i).ownBlock = some k → (qs j).ownBlock = some k → False
/-- no link's row lies where v lies -/
def SepV (qs : Nat → Value) (links : Nat) (v : Value) : Prop := ∀ i k, i < links → (qs i).ownBlock = some k → v.ownBlock = some k → False
section
variable {w w' : World} {B gq links : Nat} {qs : Nat → Value} {rows : Nat → List (List UInt8)}
theorem Qs.cell (h : Qs w B gq links qs rows) {i : Nat} (hi : i < links) : w.cell? ⟨gq, i, none⟩ = some (qs i) := by
  have := World.ownsRow.cellAt h.row i (by omega)
  rw [range_cell hi] at this
  exact this
theorem Qs.lt (h : Qs w B gq links qs rows) : B ≤ gq ∧ gq < w.heap.size := h.row.lt gq rfl
theorem Qs.below (h : Qs w B gq links qs rows) (hb : Below w.heap.size w w') : Qs w' B gq links qs rows :=
  ⟨own_below h.row hb, fun i hi => (h.fr i hi).below hb, h.sep⟩
theorem Qs.slice (h : Qs w B gq links qs rows) {i : Nat} (hi : i < links) : ∃ a c, qs i = .slice a (rows i).length c := (h.fr i hi).slice
theorem Qs.blk_lt (h : Qs w B gq links qs rows) {i k : Nat} (hi : i < links) (hk : (qs i).ownBlock = some k) : B ≤ k ∧ k < w.heap.size := by
  obtain ⟨xs, h1, _⟩ := (h.fr i hi).ex
  exact own_ownlt h1 hk
/-- link i has a row more -/
theorem Qs.grow {i : Nat} {xs : List Value} {x v' : Value} {l : List UInt8} (h : Qs w B gq links qs rows) (hi : i < links) (h1 : w.ownsRow B 27 1 (qs i) (rows i).length xs) (h2 : Each w B xs (rows i)) (hx : w.ownsRow B 5 1 x l.length (l.map bv))
    (ho : w'.ownsRow B 27 1 v' ((rows i).length + 1) (xs ++ [x])) (hg : w.grownBy w' (qs i).ownBlock) (hn : Next w (qs i) v') : Qs (w'.setCell ⟨gq, i, none⟩ v') B gq links (updV qs i v') (updR rows i l) := by
  have hb : ButOf (fun k => (qs i).ownBlock = some k) w w' := ButOf.of_grown hg (fun _ e => e)
  have hrow := own_but h.row hb (fun k hk => own_own_ne h.row h1 (by decide) hk)
  refine ⟨?_, fun j hj => ?_, fun a b k ha hb' hab h3 h4 => ?_⟩
  · rw [range_upd]
    exact own_setElem hrow hi v'
  · unfold updV updR
    by_cases hji : j = i
    · subst hji
      rw [if_pos rfl, if_pos rfl]
      exact (Fr.snoc h1 h2 hx ho hg).setq hrow
    · rw [if_neg hji, if_neg hji]
      exact ((h.fr j hj).oth h1 hg (fun k hk e => h.sep j i k hj hi hji hk e)).setq hrow
  · unfold updV at h3 h4
    by_cases hai : a = i
    · subst hai
      rw [if_pos rfl] at h3
      rw [if_neg (fun e => hab e.symm)] at h4
      rcases hn k h3 with e | e
      · exact h.sep a b k ha hb' hab e h4
      · have := (h.blk_lt hb' h4).2; omega
    · rw [if_neg hai] at h3
      by_cases hbi : b = i
      · subst hbi
        rw [if_pos rfl] at h4
        rcases hn k h4 with e | e
        · exact h.sep a b k ha hb' hab h3 e
        · have := (h.blk_lt ha h3).2; omega
      · rw [if_neg hbi] at h4
        exact h.sep a b k ha hb' hab h3 h4
theorem SepV.grow {i : Nat} {v v' : Value} (h : SepV qs links v) (hi : i < links) (hlt : ∀ k, v.ownBlock = some k → k < w.heap.size) (hn : Next w (qs i) v') : SepV (updV qs i v') links v := fun j k hj h1 h2 => by
  unfold updV at h1
  by_cases hji : j = i
  · rw [if_pos hji] at h1
    rcases hn k h1 with e | e
    · exact h i k hi e h2
    · have := hlt k h2; omega
  · rw [if_neg hji] at h1
    exact h j k hj h1 h2
/-- another row of rows grows -/
theorem Qs.other {vo : Value} {n B' : Nat} {xs : List Value} (h : Qs w B gq links qs rows) (ho : w.ownsRow B' 27 1 vo n xs) (hg : w.grownBy w' vo.ownBlock) (hs : SepV qs links vo) : Qs w' B gq links qs rows := by
  have hb : ButOf (fun k => vo.ownBlock = some k) w w' := ButOf.of_grown hg (fun _ e => e)
  exact ⟨own_but h.row hb (fun k hk => own_own_ne h.row ho (by decide) hk), fun i hi => (h.fr i hi).oth ho hg (fun k hk e => hs i k hi hk e), h.sep⟩
end
theorem Qs.congr {w : World} {B gq links : Nat} {qs : Nat → Value} {rows rows' : Nat → List (List UInt8)} (h : Qs w B gq links qs rows) (e : ∀ i, i < links → rows i = rows' i) : Qs w B gq links qs rows' :=
  ⟨h.row, fun i hi => by rw [← e i hi]; exact h.fr i hi, h.sep⟩
/-- v has moved -/
theorem SepV.moved {w : World} {links : Nat} {qs : Nat → Value} {v v' : Value} (h : SepV qs links v) (hlt : ∀ i k, i < links → (qs i).ownBlock = some k → k < w.heap.size) (hn : Next w v v') : SepV qs links v' := fun i k hi h1 h2 => by
  rcases hn k h2 with e | e
  · exact h i k hi h1 e
  · have := hlt i k hi h1; omega
theorem map_ext {F L : List (List UInt8)} {l : List Nat} (h : ∀ m ∈ l, m < F.length) : l.map (fun m => F.getD m []) = l.map (fun m => (F ++ L).getD m []) := by
  refine List.map_congr_left (fun m hm => ?_)
  rw [List.getD_eq_getElem?_getD, List.getD_eq_getElem?_getD, List.getElem?_append_left (h m hm)]
theorem updR_map {idx : Nat → List Nat} {i m : Nat} {F : List (List UInt8)} {l : List UInt8} (e : F.getD m [] = l) : updR (fun j => (idx j).map fun m => F.getD m []) i l = fun j => (if j = i then idx j ++ [m] else idx j).map fun m => F.getD m [] := by
  funext j
  unfold updR
  split
  · rw [List.map_append, ← e]; rfl
  · rfl
/-- one of the rows, as its own -/
theorem Fr.own_at {w : World} {B n c : Nat} {a : Option Addr} {L : List (List UInt8)} (h : Fr w B (.slice a n c) L) {i : Nat} (hi : i < L.length) : ∃ g xa xc, a = some ⟨g, 0, none⟩ ∧ g < w.heap.size ∧ w.cell? ⟨g, i, none⟩ = some (.slice xa (L.getD i []).length xc) ∧ w.ownsRow B 5 1 (.slice xa (L.getD i []).length xc) (L.getD i []).length ((L.getD i []).map bv) := by
  obtain ⟨xs, h1, h2⟩ := h.ex
  obtain ⟨x, hx1, hx2⟩ := h2.get hi
  obtain ⟨xa, xc, rfl⟩ := own_slice hx2
  rcases h1.2 with ⟨e, h0⟩ | ⟨g, cap, cur, e, _, hg, _⟩
  · omega
  · cases e
    exact ⟨g, xa, xc, rfl, (Array.getElem?_eq_some_iff.1 hg).1, (World.ownsRow.cellAt h1 i (by omega)).trans hx1, hx2⟩
/-- the slice v is the slice v0 of n elements without its first k ones -/
def Left (v0 v : Value) (k n : Nat) : Prop := ∃ a c, v = .slice a (n - k) c ∧ (k < n → ∃ g cap, v0 = .slice (some ⟨g, 0, none⟩) n cap ∧ a = some ⟨g, k, none⟩ ∧ c = cap - k ∧ n ≤ cap ∧ cap ≤ 9223372036854775807)
def updN (ks : Nat → Nat) (i : Nat) (j : Nat) : Nat := if j = i then ks j + 1 else ks j
theorem run_slice1 (a : Option Addr) (m d : Nat) (h1 : 1 ≤ m) (w : World) :
    (Instr.slice 23 (.slice a m d) (some (.int .i64 1)) none none).run Try.prog w = .ok (.slice (if d = 1 then a else a.map (·.add 1)) (m - 1) (d - 1)) w := by
  obtain ⟨i0, hi, _, hz1, _⟩ := info_parts info_rows
  simp [Instr.slice, run_underlying Try.underlying23, Instr.sliceBounds, Instr.sliceBound, asIntOf, sizeOf, typeInfo, hi, hz1]
  intro h; omega
theorem Left.next {v0 v : Value} {k n : Nat} (h : Left v0 v k n) (hk : k < n) : ∃ g d a1 m1 d1, v = .slice (some ⟨g, k, none⟩) (n - k) d ∧ Left v0 (.slice a1 m1 d1) (k + 1) n ∧ (∀ w, (Instr.slice 23 (.slice (some ⟨g, k, none⟩) (n - k) d) (some (.int .i64 1)) none none).run Try.prog w = .ok (.slice a1 m1 d1) w) ∧ n - k ≤ d ∧ d ≤ 9223372036854775807 := by
  obtain ⟨a, c, rfl, h1⟩ := h
  obtain ⟨g, cap, rfl, rfl, rfl, h2, h3⟩ := h1 hk
  refine ⟨g, cap - k, _, _, _, rfl, ?_, fun w => run_slice1 _ _ _ (by omega) w, by omega, by omega⟩
  refine ⟨_, _, by rw [Nat.sub_sub], fun hk1 => ⟨g, cap, rfl, ?_, by omega, h2, h3⟩⟩
  rw [if_neg (by omega)]
  rfl
/-- the rows of the links, the first ks i of them taken away -/
structure Qc (w : World) (B S2 gq links : Nat) (qs v0 : Nat → Value) (rows : Nat → List (List UInt8)) (ks : Nat → Nat) : Prop where
  row : w.ownsRow B 23 1 (.slice (some ⟨gq, 0, none⟩) links links) links ((List.range links).map qs)
  left : ∀ i, i < links → Left (v0 i) (qs i) (ks i) (rows i).length
  fr : ∀ i, i < links → Fr w B (v0 i) (rows i)
  top : ∀ i k, i < links → (v0 i).ownBlock = some k → k < S2
theorem Qs.qc {w : World} {B gq links : Nat} {qs : Nat → Value} {rows : Nat → List (List UInt8)} (h : Qs w B gq links qs rows) : Qc w B w.heap.size gq links qs qs rows (fun _ => 0) := by
  refine ⟨h.row, fun i hi => ?_, h.fr, fun i k hi hk => (h.blk_lt hi hk).2⟩
  obtain ⟨xs, h1, _⟩ := (h.fr i hi).ex
  rcases h1.2 with ⟨e, h0⟩ | ⟨g, cap, cur, e, _, _, hn, hm, _⟩
  · rw [e, h0]
    exact ⟨none, 0, rfl, fun h => by omega⟩
  · rw [e]
    unfold maxLen at hm
    exact ⟨_, _, rfl, fun _ => ⟨g, cap, rfl, rfl, rfl, hn, hm⟩⟩
section
variable {w w' : World} {B S2 gq links : Nat} {qs v0 : Nat → Value} {rows : Nat → List (List UInt8)} {ks : Nat → Nat}
theorem Qc.cell (h : Qc w B S2 gq links qs v0 rows ks) {i : Nat} (hi : i < links) : w.cell? ⟨gq, i, none⟩ = some (qs i) := by
  have := World.ownsRow.cellAt h.row i (by omega)
  rw [range_cell hi] at this
  exact this
theorem Qc.below (h : Qc w B S2 gq links qs v0 rows ks) (hb : Below w.heap.size w w') : Qc w' B S2 gq links qs v0 rows ks :=
  ⟨own_below h.row hb, h.left, fun i hi => (h.fr i hi).below hb, h.top⟩
theorem Qc.lt (h : Qc w B S2 gq links qs v0 rows ks) : B ≤ gq ∧ gq < w.heap.size := h.row.lt gq rfl
/-- the first one that is left -/
theorem Qc.first (h : Qc w B S2 gq links qs v0 rows ks) {i : Nat} (hi : i < links) (hk : ks i < (rows i).length) (hs : ((rows i).getD (ks i) []).length ≤ 140737488355328) {g d m : Nat} (hv : qs i = .slice (some ⟨g, ks i, none⟩) m d) :
    ∃ xa xc, w.cell? ⟨g, ks i, none⟩ = some (.slice xa ((rows i).getD (ks i) []).length xc) ∧ Bts w xa ((rows i).getD (ks i) []).length xc ((rows i).getD (ks i) []) := by
  obtain ⟨xs, h1, h2⟩ := (h.fr i hi).ex
  obtain ⟨x, hx1, hx2⟩ := h2.get hk
  obtain ⟨xa, xc, rfl, hB⟩ := Bts.of_own hx2 hs
  obtain ⟨a, c, e, h3⟩ := h.left i hi
  obtain ⟨g', cap, e0, e1, _⟩ := h3 hk
  rw [hv] at e
  injection e with e2 _ _
  rw [e1] at e2
  injection e2 with e3
  injection e3 with e4 _ _
  subst e4
  rw [e0] at h1
  exact ⟨xa, xc, (World.ownsRow.cellAt h1 (ks i) (by omega)).trans hx1, hB⟩
theorem Qc.cut (h : Qc w B S2 gq links qs v0 rows ks) {i : Nat} {v' : Value} (hi : i < links) (hl : Left (v0 i) v' (ks i + 1) (rows i).length) : Qc (w.setCell ⟨gq, i, none⟩ v') B S2 gq links (updV qs i v') v0 rows (updN ks i) := by
  refine ⟨?_, fun j hj => ?_, fun j hj => (h.fr j hj).setq h.row, h.top⟩
  · rw [range_upd]
    exact own_setElem h.row hi _
  · unfold updV updN
    by_cases hj2 : j = i
    · subst hj2; rw [if_pos rfl, if_pos rfl]; exact hl
    · rw [if_neg hj2, if_neg hj2]; exact h.left j hj
theorem Qc.jo {B' b bm : Nat} {vl : Value} {s : JS} (h : Qc w B S2 gq links qs v0 rows ks) (hJ : Jo w B' b bm vl s) (hb : ButOf (JFoot b bm vl) w w') : Qc w' B S2 gq links qs v0 rows ks := by
  obtain ⟨D, hv, m1, m2, m3⟩ := hJ.map
  refine ⟨own_but h.row hb (fun k hk e => ?_), h.left, fun i hi => (h.fr i hi).jo hJ hb, h.top⟩
  rcases e with e | e | e
  · exact own_blk_ne h.row hJ.blk (by decide) (e ▸ hk)
  · exact ownsMap_own m1 h.row (e ▸ hk)
  · exact own_own_ne h.row hJ.row (by decide) hk e
theorem Qc.other {vo : Value} {n : Nat} {xs : List Value} (h : Qc w B S2 gq links qs v0 rows ks) (ho : w.ownsRow S2 27 1 vo n xs) (hg : w.grownBy w' vo.ownBlock) : Qc w' B S2 gq links qs v0 rows ks := by
  have hb : ButOf (fun k => vo.ownBlock = some k) w w' := ButOf.of_grown hg (fun _ e => e)
  refine ⟨own_but h.row hb (fun k hk => own_own_ne h.row ho (by decide) hk), h.left, fun i hi => (h.fr i hi).oth ho hg (fun k hk e => ?_), h.top⟩
  have h1 := h.top i k hi hk
  have h2 := (own_ownlt ho e).1
  omega
end
/-- q := make([][][]byte, links) -/
theorem run_mkQ (links : Nat) (hl : links ≤ 1000) (W : World) : (Instr.makeSlice 47 (.int .i64 (links : Nat)) (.int .i64 (links : Nat))).run Try.prog W =
    .ok (.slice (some ⟨W.heap.size, 0, none⟩) links links) (W.alloc (.cells (List.replicate links (Value.slice none 0 0)).toArray 23)) := by
  obtain ⟨i0, hi, hz0, hz1, hz2⟩ := info_parts (show (Try.prog.info? 23).map (fun i => (i.zero, i.size, i.bytes)) = some (some (.slice none 0 0), 1, 24) from by kernel_rfl)
  have h := run_make (P := Try.prog) (w := W) 47 23 i0 (.slice none 0 0) Try.underlying47 hi hz0 .i64 .i64 (links : Int) (links : Int) (by omega) (by omega) (by rw [hz2]; omega) (by omega)
  rw [hz1, Nat.mul_one, show (Value.slice none 0 0).cells = #[.slice none 0 0] from rfl, madeCells_one, Int.toNat_natCast] at h
  exact h
theorem Qs.made (w : World) (links : Nat) (hl : links ≤ 1000) : Qs (w.alloc (.cells (List.replicate links (Value.slice none 0 0)).toArray 23)) w.heap.size w.heap.size links (fun _ => .slice none 0 0) (fun _ => []) := by
  refine ⟨?_, fun _ _ => Fr.nil _ _, fun i j k _ _ _ h => by cases h⟩
  have h1 := own_of_blk (n := links) (c := links) (Blk.new w (List.replicate links (Value.slice none 0 0)).toArray 23) (Nat.le_refl _) (Nat.le_refl _) (by unfold maxLen; omega) (by simp)
  rw [List.take_of_length_le (by simp)] at h1
  exact own_congr h1 rfl (by simp [List.map_const'])
/-- the values xs are rows of bytes that came in, as they were in w0 -/
def ArgRows (w0 : World) : List Value → List (List UInt8) → Prop
  | [], [] => True
  | x :: xs, l :: L => (∃ a n c, x = .slice a n c ∧ Bts w0 a n c l) ∧ ArgRows w0 xs L
  | _, _ => False
theorem ArgRows.snoc {w0 : World} {x : Value} {l : List UInt8} : ∀ {xs : List Value} {L : List (List UInt8)}, ArgRows w0 xs L → (∃ a n c, x = .slice a n c ∧ Bts w0 a n c l) → ArgRows w0 (xs ++ [x]) (L ++ [l])
  | [], [], _, h => ⟨h, trivial⟩
  | _ :: _, _ :: _, h, k => ⟨h.1, ArgRows.snoc h.2 k⟩
  | [], _ :: _, h, _ => h.elim
  | _ :: _, [], h, _ => h.elim
theorem ArgRows.get {w0 : World} : ∀ {xs : List Value} {L : List (List UInt8)}, ArgRows w0 xs L → ∀ {i : Nat}, i < L.length → ∃ a c, xs[i]? = some (.slice a (L.getD i []).length c) ∧ Bts w0 a (L.getD i []).length c (L.getD i [])
  | _ :: _, l :: _, h, 0, _ => by
    obtain ⟨a, n, c, rfl, hB⟩ := h.1
    have := hB.len
    subst this
    exact ⟨a, c, rfl, hB⟩
  | _ :: _, _ :: L, h, i + 1, hi => by
    obtain ⟨a, c, h1, h2⟩ := ArgRows.get h.2 (i := i) (by simpa using hi)
    exact ⟨a, c, by simpa using h1, h2⟩
  | [], _ :: _, h, _, _ => h.elim
  | _ :: _, [], h, _, _ => h.elim
  | [], [], _, _, hi => by simp at hi
/-- a slice of such rows -/
structure Wn (w0 w : World) (B : Nat) (v : Value) (D : List (List UInt8)) : Prop where
  ex : ∃ xs, w.ownsRow B 27 1 v D.length xs ∧ ArgRows w0 xs D
section
variable {w0 w w' : World} {B : Nat} {v : Value} {D : List (List UInt8)}
theorem Wn.nil (w0 w : World) (B : Nat) : Wn w0 w B (.slice none 0 0) [] := ⟨[], World.ownsRow_nil _ _ _ _, trivial⟩
theorem Wn.slice (h : Wn w0 w B v D) : ∃ a c, v = .slice a D.length c := by
  obtain ⟨xs, h1, _⟩ := h.ex
  exact own_slice h1
theorem Wn.below (h : Wn w0 w B v D) (hb : Below w.heap.size w w') : Wn w0 w' B v D := by
  obtain ⟨xs, h1, h2⟩ := h.ex
  exact ⟨xs, own_below h1 hb, h2⟩
theorem Wn.but {K : Nat → Prop} (h : Wn w0 w B v D) (hb : ButOf K w w') (hn : ∀ k, v.ownBlock = some k → ¬ K k) : Wn w0 w' B v D := by
  obtain ⟨xs, h1, h2⟩ := h.ex
  exact ⟨xs, own_but h1 hb hn, h2⟩
theorem Wn.lt (h : Wn w0 w B v D) {k : Nat} (hk : v.ownBlock = some k) : B ≤ k ∧ k < w.heap.size := by
  obtain ⟨xs, h1, _⟩ := h.ex
  exact own_ownlt h1 hk
theorem Wn.jo {B' b bm : Nat} {vl : Value} {s : JS} (h : Wn w0 w B v D) (hJ : Jo w B' b bm vl s) (hb : ButOf (JFoot b bm vl) w w') : Wn w0 w' B v D := by
  obtain ⟨xs, h1, h2⟩ := h.ex
  obtain ⟨D', hv, m1, m2, m3⟩ := hJ.map
  refine ⟨xs, own_but h1 hb (fun k hk e => ?_), h2⟩
  rcases e with e | e | e
  · exact own_blk_ne h1 hJ.blk (by decide) (e ▸ hk)
  · exact ownsMap_own m1 h1 (e ▸ hk)
  · exact own_own_ne h1 hJ.row (by decide) hk e
/-- another slice's cell is written -/
theorem Wn.setq {B' g n c i : Nat} {x : Value} {xs : List Value} (h : Wn w0 w B v D) (ho : w.ownsRow B' 23 1 (.slice (some ⟨g, 0, none⟩) n c) n xs) : Wn w0 (w.setCell ⟨g, i, none⟩ x) B v D := by
  obtain ⟨ys, h1, h2⟩ := h.ex
  exact ⟨ys, own_but h1 ((ButOf.refl (fun k => k = g) w).set _ (Or.inl rfl)) (fun k hk e => own_own_ne h1 ho (by decide) hk (by rw [e]; rfl)), h2⟩
theorem Wn.rl (h : Wn w0 w B v D) (hb : Below w0.heap.size w0 w) : ∃ a c, v = .slice a D.length c ∧ Rl w a D.length c D := by
  obtain ⟨xs, h1, h2⟩ := h.ex
  have hx := h1
  rcases h1.2 with ⟨rfl, h0⟩ | ⟨g, cap, cur, rfl, _, hg, hn, hm, _⟩
  · exact ⟨none, 0, by rw [h0], rfl, by omega, fun i hi => by omega⟩
  · unfold maxLen at hm
    refine ⟨some ⟨g, 0, none⟩, cap, rfl, rfl, ⟨hn, hm⟩, fun i hi => ?_⟩
    obtain ⟨xa, xc, h3, h4⟩ := h2.get hi
    refine ⟨g, 0, xa, xc, rfl, ?_, h4.below hb (Nat.le_refl _)⟩
    rw [Nat.zero_add]
    exact (World.ownsRow.cellAt hx i (by omega)).trans h3
end
end Go.Proofs.Ytglmlhbchfgliaa
