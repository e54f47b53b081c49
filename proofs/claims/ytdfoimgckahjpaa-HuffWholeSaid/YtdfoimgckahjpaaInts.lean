/-
  Rows of numbers that came in, and appends of them. No conditions.
-/
import Derived.Test.YtdfoimgckahjpaaHuffHeap
namespace Go.Proofs.Ytdfoimgckahjpaa
open Go.RowKit
/-- a number as a value -/
def zv (x : Int) : Value := .int .i64 x
/-- the slice (a, n, c) reads as the numbers l -/
structure Zs (w : World) (a : Option Addr) (n c : Nat) (l : List Int) : Prop where
  len : l.length = n
  cap : n ≤ c
  most : c ≤ 9223372036854775807
  nil : a = none → c = 0
  cell : ∀ j, j < n → ∃ b o, a = some ⟨b, o, none⟩ ∧ w.cell? ⟨b, o + j, none⟩ = some (zv (l.getD j 0))
section
variable {w w' : World} {a : Option Addr} {n c : Nat} {l : List Int}
theorem Zs.below (h : Zs w a n c l) {B : Nat} (hb : Below B w w') (hB : w.heap.size ≤ B) : Zs w' a n c l := by
  refine ⟨h.len, h.cap, h.most, h.nil, fun j hj => ?_⟩
  obtain ⟨b, o, rfl, h2⟩ := h.cell j hj
  exact ⟨b, o, rfl, by rw [hb.cell (p := ⟨b, o + j, none⟩) (Nat.lt_of_lt_of_le (World.block_lt_of_cell? _ _ h2) hB)]; exact h2⟩
theorem Zs.at_ (h : Zs w a n c l) (hb : Below w.heap.size w w') {j : Nat} (hj : j < n) : ∃ b o, a = some ⟨b, o, none⟩ ∧ b < w.heap.size ∧ w'.cell? ⟨b, o + j, none⟩ = some (.int .i64 (l.getD j 0)) := by
  obtain ⟨b, o, rfl, h2⟩ := h.cell j hj
  have hlt : b < w.heap.size := World.block_lt_of_cell? _ _ h2
  exact ⟨b, o, rfl, hlt, (hb.cell (p := ⟨b, o + j, none⟩) hlt).trans h2⟩
theorem Zs.of_row {zs : List Int} (h : IsRow .i64 w a n c zs) : Zs w a n c (zs.take n) := by
  have hle := h.le
  rcases h with ⟨rfl, rfl, rfl, rfl⟩ | ⟨x, rfl, h1, h2, h3, h4, h5⟩
  · exact ⟨rfl, Nat.le_refl _, by omega, fun _ => rfl, fun j hj => by omega⟩
  · refine ⟨by simp; omega, h1, hle.2.1, fun e => (by cases e), fun j hj => ?_⟩
    have hc := h4 j (by omega)
    have hx : x.spot = none := by
      have h0 := h4 0 (by omega)
      simp only [Addr.add, if_pos, World.cell?] at h0
      split at h0
      · cases hs : x.spot with
        | none => rfl
        | some s => simp [hs] at h0
      · cases h0
    obtain ⟨b, o, s⟩ := x
    simp only at hx
    subst hx
    have ha : (⟨b, o, none⟩ : Addr).add j = ⟨b, o + j, none⟩ := by unfold Addr.add; split <;> simp_all
    rw [ha] at hc
    refine ⟨b, o, rfl, ?_⟩
    rw [hc]
    simp only [List.getD_eq_getElem?_getD, List.getElem?_take, if_pos hj]
    rfl
theorem Zs.of_own {B : Nat} (h : w.ownsRow B 3 1 (.slice a n c) n (l.map zv)) : Zs w a n c l := by
  have hl : l.length = n := by simpa using h.1
  have hx := h
  rcases h.2 with ⟨h1, h0⟩ | ⟨g, cap, cur, h1, _, hg, hn, hm, hs, ht⟩
  · cases h1; exact ⟨hl, Nat.le_refl _, by omega, fun _ => rfl, fun j hj => by omega⟩
  · cases h1
    unfold maxLen at hm
    refine ⟨hl, hn, hm, fun e => (by cases e), fun j hj => ⟨g, 0, rfl, ?_⟩⟩
    rw [Nat.zero_add]
    have h2 := World.ownsRow.cellAt hx j (by omega)
    exact h2.trans (by simp [List.getD_eq_getElem?_getD, List.getElem?_eq_getElem (show j < l.length by omega)])
end
/-- the numbers of naturals -/
def ints (L : List Nat) : List Int := L.map Int.ofNat
theorem nv_zv (L : List Nat) : (ints L).map zv = L.map nv := by simp [ints, Function.comp_def, zv, nv]
theorem ints_getD (M : List Nat) (j : Nat) : (ints M).getD j 0 = ((M.getD j 0 : Nat) : Int) := by
  simp only [ints, List.getD_eq_getElem?_getD, List.getElem?_map]
  cases M[j]? <;> rfl
/-- append of all numbers of a slice onto an own row -/
theorem wp_appZ {P : Program} {w : World} {ops : Array Oper} {rest : List Oper} {o : Oper} {a : Act} {Q : Exit → Act → World → Prop} (hgd : o.guard = none) (s x : Operand) (t : TypeId)
    (ho : o.op = .call { callee := .builtin .append, args := #[s, x], argTypes := #[t, t] })
    (base : Nat) (e : TypeId) (i : TypeInfo) (z : Value) (bytes : Nat) (ht : P.underlying t = some (.slice e)) (hi : P.info? e = some i) (hz : i.zero = some z)
    (hsize : i.size = 1) (hby : i.bytes = bytes) (hzs : z.cells.size = 1)
    (v : Value) (n : Nat) (xs : List Value) (hs : a.eval s = v) (hown : w.ownsRow base e 1 v n xs)
    (ad : Option Addr) (m c : Nat) (l : List Int) (hx : a.eval x = .slice ad m c) (hB : Zs w ad m c l)
    (hmax : n + m ≤ maxLen) (hbytes : (n + m) * bytes ≤ 140737488355328) (hbase : base ≤ w.heap.size)
    (h : ∀ v' w', w'.ownsRow base e 1 v' (n + m) (xs ++ l.map zv) → w.grownBy w' v.ownBlock → Next w v v' → wpList P ops Q rest (a.put o.dst v') w') :
    wpList P ops Q (o :: rest) a w := by
  have hl := hB.len
  cases ad with
  | none =>
    have hc := hB.nil rfl
    have hm := hB.cap
    obtain rfl : m = 0 := by omega
    subst hc
    obtain rfl : l = [] := List.eq_nil_of_length_eq_zero hl
    refine wpList_append_own_none hgd s x t ho base e i 1 ht hi v n xs hs hown hx (h _ _ (by simpa using hown) ⟨rfl, rfl, rfl, Nat.le_refl _, fun _ _ _ => rfl⟩ (Next.refl _ _))
  | some ad =>
    refine wpList_append_own_at _ hgd s x t ho base e i z 1 bytes ht hi hz hsize hby hzs (by decide) v n xs hs hown ad m c (l.map zv) hx (by simp [hl]) ?_ ?_ hmax hbytes hbase (fun v' w' h1 h2 _ h4 => h v' w' h1 h2 (Next.of_at h4))
    · intro j u hj
      have hj' : j < l.length := by
        have := (List.getElem?_eq_some_iff.1 hj).1; simpa using this
      obtain ⟨b, o, e1, e2⟩ := hB.cell j (by omega)
      cases e1
      have : (⟨b, o, none⟩ : Addr).add j = ⟨b, o + j, none⟩ := by unfold Addr.add; split <;> simp_all
      rw [this, e2]
      simp [List.getElem?_map, List.getElem?_eq_getElem hj', zv] at hj
      simp [List.getD_eq_getElem?_getD, List.getElem?_eq_getElem hj', hj, zv]
    · intro u hu
      obtain ⟨x, _, rfl⟩ := List.mem_map.1 hu
      rfl
/-- n noughts -/
def mkZ (n : Nat) : Array Value := (List.replicate n (Value.int .i64 0)).toArray
theorem run_mkZ {P : Program} {t e : TypeId} {i : TypeInfo} (ht : P.underlying t = some (.slice e)) (hi : P.info? e = some i) (hz : i.zero = some (.int .i64 0)) (hs : i.size = 1) (hb : i.bytes = 8)
    (n : Nat) (hn : n ≤ 100000000) (w : World) :
    (Instr.makeSlice t (.int .i64 n) (.int .i64 n)).run P w = .ok (.slice (some ⟨w.heap.size, 0, none⟩) n n) (w.alloc (.cells (mkZ n) e)) := by
  have h := run_make (P := P) (w := w) t e i (.int .i64 0) ht hi hz .i64 .i64 (n : Int) (n : Int) (by omega) (by omega) (by rw [hb]; omega) (by omega)
  rw [hs, Nat.mul_one, show (Value.int IntKind.i64 0).cells = #[.int .i64 0] from rfl, madeCells_one, Int.toNat_natCast] at h
  exact h
theorem mkZ_map (n : Nat) : mkZ n = ((List.replicate n 0).map nv).toArray := by simp [mkZ, nv]
/-- a row whose block is known, as an own row -/
theorem Nums.of_blk {w : World} {g : Nat} {l : List Nat} {n B : Nat} (h : Blk w g (l.map nv).toArray 3) (hB : B ≤ g) (hn : l.length = n) (hc : n ≤ 100000000) : Nums w B (.slice (some ⟨g, 0, none⟩) n n) l := by
  have h1 := own_of_blk (n := n) (c := n) h hB (Nat.le_refl _) (by unfold maxLen; omega) (by simpa using hn)
  rw [List.take_of_length_le (by simp; omega)] at h1
  unfold Nums
  rw [hn]
  exact h1
theorem Blk.nset {w : World} {g : Nat} {l : List Nat} (h : Blk w g (l.map nv).toArray 3) (j x : Nat) : Blk (w.setCell ⟨g, j, none⟩ (.int .i64 (x : Int))) g ((l.set j x).map nv).toArray 3 := by
  have h1 := h.set j (.int .i64 (x : Int))
  rw [List.setIfInBounds_toArray, show Value.int .i64 (x : Int) = nv x from rfl, ← List.map_set] at h1
  exact h1
theorem Blk.nget {w : World} {g : Nat} {l : List Nat} (h : Blk w g (l.map nv).toArray 3) {j : Nat} (hj : j < l.length) : w.cell? ⟨g, j, none⟩ = some (nv (l.getD j 0)) := by
  rw [h.cell]; simp [List.getD_eq_getElem?_getD, hj]
set_option maxRecDepth 100000 in
theorem info_int : (Try.prog.info? 3).map (fun i => (i.zero, i.size, i.bytes)) = some (some (.int .i64 0), 1, 8) := by kernel_rfl
theorem eq_nil (a : Option Addr) (n c : Nat) (w : World) : Sem.run Try.prog (binOp BinOp.eql 35 (.slice a n c) (.slice none 0 0)) w = .ok (.bool a.isNone) w := by cases a <;> kernel_rfl
set_option maxRecDepth 100000 in
set_option maxHeartbeats 1000000 in
/-- slices.Clone of numbers -/
theorem clone_any {w : World} {a : Option Addr} {n c : Nat} {l : List Int} (h : Zs w a n c l) (hn : n ≤ 100000) :
    Calls Try.prog 52 #[.slice a n c] w fun e w' => ∃ v, e = .returned v ∧ w'.ownsRow w.heap.size 3 1 v n (l.map zv) ∧ Below w.heap.size w w' := by
  have hl := h.len
  have hc := h.cap
  obtain ⟨i0, hi, hz0, hz1, hz2⟩ := info_parts info_int
  have hi' := Lib.hid hi; clear hi
  have hq := eq_nil a n c
  cases a with
  | none =>
    have h0 := h.nil rfl
    obtain rfl : n = 0 := by omega
    subst h0
    obtain rfl : l = [] := List.eq_nil_of_length_eq_zero hl
    go_enter Try.func52, Try.ntmps52
    go_wp2_with fail
    go_ret
    exact ⟨_, rfl, World.ownsRow_nil _ _ _ _, Below.refl _ _⟩
  | some x =>
    go_enter Try.func52, Try.ntmps52
    have hown : (w.alloc (.cells #[] 3)).ownsRow w.heap.size 3 1 (.slice (some ⟨w.heap.size, 0, none⟩) 0 0) 0 [] :=
      own_of_blk (n := 0) (c := 0) (cs := []) (Blk.new w #[] 3) (Nat.le_refl _) (Nat.le_refl _) (by decide) rfl
    have hB := h.below (below_alloc (Below.refl w.heap.size w) (.cells #[] 3) (Nat.le_refl _)) (Nat.le_refl _)
    have hs := alloc_size w (.cells #[] 3)
    go_wp2_with (at_builtin; go_must (refine wp_appZ rfl _ _ 35 rfl w.heap.size 3 i0 _ 8 Try.underlying35 hi'.out hz0 hz1 hz2 rfl _ 0 [] rfl hown (some x) n c l rfl hB ?c3 ?c4 (by omega) ?_))
    case c3 => unfold maxLen; omega
    case c4 => omega
    intro v1 w1 ho hg _
    have hb := below_grown (below_alloc (Below.refl w.heap.size w) (.cells #[] 3) (Nat.le_refl _)) hown hg (by omega)
    go_wp2_with fail
    go_ret
    exact ⟨_, rfl, own_congr ho (by omega) (by simp), hb⟩
end Go.Proofs.Ytdfoimgckahjpaa
