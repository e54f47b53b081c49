/-
  Small words and laws that all walks of this seat share: a slice that reads as bytes, what a call leaves below a block, an append of one cell. No conditions.
-/
import Derived.Test.YtdfoimgckahjpaaRows
import Derived.WalkKit
import Derived.WalkSpells
import Derived.WalkLawsBesides
import Derived.Deep.QuietTactic
import Derived.BigQuiet
import Derived.Lib.Hide
import Derived.Deep.DeepMust
import Derived.StillTailTactics
import Derived.Lib.SlBytesConst
import Derived.Deep.RegionWith
import Derived.Deep.RegionHeld3
import Derived.Laws.AppendOwnNone
import Derived.Laws.BytesArg
namespace Go.Proofs.Ytdfoimgckahjpaa
open Go.RowKit

theorem ret_bool {a b : Bool} (h : a = b) : Ending.returned (.bool a) = .returned (.bool b) := by rw [h]
theorem ret_int {k : IntKind} {a b : Int} (h : a = b) : Ending.returned (.int k a) = .returned (.int k b) := by rw [h]

theorem ret_vb {v : Value} {a b : Bool} (h : a = b) : Ending.returned (.tuple #[v, .bool a]) = .returned (.tuple #[v, .bool b]) := by rw [h]

theorem run_min2 {P : Program} (w : World) (ts : Array TypeId) (t : TypeId) (x y : Nat) :
    (Builtin.min_ ts t #[.int .i64 x, .int .i64 y]).run P w = .ok (.int .i64 ((min x y : Nat) : Int)) w := by
  simp only [Builtin.min_, List.foldlM, Builtin.min2, pure_bind]
  have h : ∀ a b : Nat, (if (b : Int) < (a : Int) then (b : Int) else (a : Int)) = ((min a b : Nat) : Int) := by
    intro a b; rw [Nat.min_def]; split <;> split <;> omega
  rw [h]
  rfl
theorem run_min4 {P : Program} (w : World) (ts : Array TypeId) (t : TypeId) (x y z u : Nat) :
    (Builtin.min_ ts t #[.int .i64 x, .int .i64 y, .int .i64 z, .int .i64 u]).run P w = .ok (.int .i64 ((min (min (min x y) z) u : Nat) : Int)) w := by
  simp only [Builtin.min_, List.foldlM, Builtin.min2, pure_bind]
  have h : ∀ a b : Nat, (if (b : Int) < (a : Int) then (b : Int) else (a : Int)) = ((min a b : Nat) : Int) := by
    intro a b; rw [Nat.min_def]; split <;> split <;> omega
  rw [h, h, h]
  rfl

theorem quiet_eq {P : Program} {f : FuncId} {args : Array Value} {w : World} {n : Nat} {v : Value}
    (h : Calls P f args (w.drewN n) fun e w' => e = .returned v ∧ w.drewN n = w') : Calls P f args (w.drewN n) fun e w'' => e = .returned v ∧ ∃ m, w'' = w.drewN m :=
  h.mono fun _ _ ⟨he, hm⟩ => ⟨he, n, hm.symm⟩

/-- a byte as a value -/
def bv (u : UInt8) : Value := .int .u8 (u.toNat : Int)

theorem xor_u8 (a b : UInt8) : bits .xor .u8 (a.toNat : Int) (b.toNat : Int) = (((a ^^^ b).toNat : Nat) : Int) := by
  rw [u8_xor_nat _ _ a.toNat_lt b.toNat_lt]; simp

theorem own_len {w : World} {B E n : Nat} {v : Value} {l : List UInt8} (h : w.ownsRow B E 1 v n (l.map bv)) : l.length = n := by simpa using h.1

theorem getD_snoc (l : List UInt8) (x : UInt8) (j : Nat) : (l ++ [x]).getD j 0 = if j < l.length then l.getD j 0 else if j = l.length then x else 0 := by
  simp only [List.getD_eq_getElem?_getD]
  by_cases h : j < l.length
  · rw [if_pos h, List.getElem?_append_left h]
  · rw [if_neg h, List.getElem?_append_right (by omega)]
    by_cases h2 : j = l.length
    · simp [h2]
    · rw [if_neg h2, List.getElem?_eq_none (by simp; omega)]
      rfl

/-- the slice (a, n, c) reads as the bytes l -/
structure Bts (w : World) (a : Option Addr) (n c : Nat) (l : List UInt8) : Prop where
  len : l.length = n
  cap : n ≤ c
  reach : n ≤ 140737488355328
  most : c ≤ 9223372036854775807
  nil : a = none → c = 0
  cell : ∀ j, j < n → ∃ b o, a = some ⟨b, o, none⟩ ∧ w.cell? ⟨b, o + j, none⟩ = some (.int .u8 ((l.getD j 0).toNat : Int))

theorem Bts.addr {w : World} {a : Option Addr} {n c : Nat} {l : List UInt8} (h : Bts w a n c l) (hn : 0 < n) :
    ∃ b o, a = some ⟨b, o, none⟩ ∧ ∀ j, j < n → w.cell? ⟨b, o + j, none⟩ = some (.int .u8 ((l.getD j 0).toNat : Int)) := by
  obtain ⟨b, o, rfl, _⟩ := h.cell 0 hn
  refine ⟨b, o, rfl, fun j hj => ?_⟩
  obtain ⟨b', o', h1, h2⟩ := h.cell j hj
  cases h1
  exact h2

theorem Bts.below {w w' : World} {a : Option Addr} {n c : Nat} {l : List UInt8} {B : Nat} (h : Bts w a n c l) (hb : Below B w w') (hB : w.heap.size ≤ B) : Bts w' a n c l := by
  refine ⟨h.len, h.cap, h.reach, h.most, h.nil, fun j hj => ?_⟩
  obtain ⟨b, o, rfl, h2⟩ := h.cell j hj
  exact ⟨b, o, rfl, by rw [hb.cell (p := ⟨b, o + j, none⟩) (Nat.lt_of_lt_of_le (World.block_lt_of_cell? _ _ h2) hB)]; exact h2⟩

theorem Bts.drew {w : World} {a : Option Addr} {n c : Nat} {l : List UInt8} (h : Bts w a n c l) : Bts w.drew a n c l := h.below (Below.refl w.heap.size w).drew (Nat.le_refl _)

theorem Bts.drewN {w : World} {a : Option Addr} {n c : Nat} {l : List UInt8} (h : Bts w a n c l) (k : Nat) : Bts (w.drewN k) a n c l := h.below (below_drewN (Below.refl w.heap.size w) k) (Nat.le_refl _)

/-- one byte, read in a later world -/
theorem Bts.get {w w' : World} {b o n c : Nat} {l : List UInt8} {B : Nat} (h : Bts w (some ⟨b, o, none⟩) n c l) (hb : Below B w w') {k : Nat} (hk : k < n) (hB : w.heap.size ≤ B := by exact Nat.le_refl _) :
    w'.cell? ⟨b, o + k, none⟩ = some (.int .u8 ((l.getD k 0).toNat : Int)) := by
  obtain ⟨b', o', h1, h2⟩ := (h.below hb hB).cell k hk
  cases h1
  exact h2

/-- a piece of a slice: what 's[lo:hi]' reads as -/
theorem Bts.sub {w : World} {a : Option Addr} {n c : Nat} {l : List UInt8} (h : Bts w a n c l) (lo hi : Nat) (h1 : lo ≤ hi) (h2 : hi ≤ n) :
    Bts w (if c = lo then a else a.map (·.add lo)) (hi - lo) (c - lo) ((l.take hi).drop lo) := by
  have hc := h.cap
  have hr := h.reach
  have hm := h.most
  have hl := h.len
  refine ⟨by simp; omega, by omega, by omega, by omega, fun e => ?_, fun j hj => ?_⟩
  · have hnil := h.nil
    split at e
    · have := hnil e; omega
    · cases a with
      | none => have := hnil rfl; omega
      | some a => simp at e
  obtain ⟨b, o, rfl, h3⟩ := h.cell (lo + j) (by omega)
  rw [if_neg (by omega)]
  refine ⟨b, o + lo, ?_, ?_⟩
  · by_cases h0 : lo = 0 <;> simp [Addr.add, h0]
  · rw [Nat.add_assoc, h3]
    simp only [List.getD_eq_getElem?_getD, List.getElem?_drop, List.getElem?_take]
    rw [if_pos (by omega)]

theorem run_sub {P : Program} {t e : TypeId} {i : TypeInfo} (ht : P.underlying t = some (.slice e)) (hi : P.info? e = some i) (hs : i.size = 1) (a : Option Addr) (n c lo : Nat) (h : lo ≤ n) (w : World) :
    (Instr.slice t (.slice a n c) (some (.int .i64 (lo : Int))) none none).run P w = .ok (.slice (if c = lo then a else a.map (·.add lo)) (n - lo) (c - lo)) w := by
  have h1 : (0 : Int) ≤ (lo : Int) ∧ (lo : Int) ≤ (n : Int) := by omega
  simp [Instr.slice, run_underlying ht, Instr.sliceBounds, Instr.sliceBound, asIntOf, sizeOf, typeInfo, hi, hs, h]
theorem run_take {P : Program} {t e : TypeId} {i : TypeInfo} (ht : P.underlying t = some (.slice e)) (hi : P.info? e = some i) (a : Option Addr) (n c k : Nat) (h : k ≤ c) (w : World) :
    (Instr.slice t (.slice a n c) none (some (.int .i64 (k : Int))) none).run P w = .ok (.slice a k c) w := by
  have h1 : (0 : Int) ≤ (k : Int) ∧ (k : Int) ≤ (c : Int) := by omega
  simp [Instr.slice, run_underlying ht, Instr.sliceBounds, Instr.sliceBound, asIntOf, sizeOf, typeInfo, hi, h, Addr.add]
/-- the rest of a slice -/
theorem Bts.drop {w : World} {a : Option Addr} {n c : Nat} {l : List UInt8} (h : Bts w a n c l) {lo : Nat} (h1 : lo ≤ n) :
    Bts w (if c = lo then a else a.map (·.add lo)) (n - lo) (c - lo) (l.drop lo) := by
  have := h.sub lo n h1 (Nat.le_refl _)
  rwa [List.take_of_length_le (by rw [h.len]; exact Nat.le_refl _)] at this
theorem Bts.take {w : World} {a : Option Addr} {n c : Nat} {l : List UInt8} (h : Bts w a n c l) {k : Nat} (hk : k ≤ n) : Bts w a k c (l.take k) := by
  have hc := h.cap
  have hr := h.reach
  have hl := h.len
  refine ⟨by simp; omega, by omega, by omega, h.most, h.nil, fun j hj => ?_⟩
  obtain ⟨b, o, rfl, h3⟩ := h.cell j (by omega)
  refine ⟨b, o, rfl, ?_⟩
  rw [h3]
  simp only [List.getD_eq_getElem?_getD, List.getElem?_take]
  rw [if_pos hj]

/-- 'string(b)' -/
theorem conv_bts {P : Program} {w : World} {src e dst : TypeId} (hs : P.underlying src = some (.slice e)) (he : P.underlying e = some (.int .u8)) (hd : P.underlying dst = some .string)
    {a : Option Addr} {n c : Nat} {l : List UInt8} (hB : Bts w a n c l) : (convert src dst (.slice a n c)).run P w = .ok (.string ⟨l.toArray⟩) w := by
  have hl := hB.len
  cases a with
  | none =>
    have hc := hB.nil rfl
    have hm := hB.cap
    obtain rfl : l = [] := List.eq_nil_of_length_eq_zero (by omega)
    rw [run_convert_bytes_nil w src e hs he n c dst hd]
    rfl
  | some ad =>
    by_cases hn : 0 < n
    · obtain ⟨b, o, e1, hcell⟩ := hB.addr hn
      cases e1
      rw [run_convert_bytes_arg w src e hs he b o n c (l.map fun u => (u.toNat : Int)) (by simpa using hl) ?_ dst hd]
      · simp [strOfNums, Function.comp_def]
      · intro i hi
        rw [hcell i hi]
        simp [List.getD_eq_getElem?_getD, List.getElem?_eq_getElem (show i < l.length by omega)]
    · obtain rfl : n = 0 := by omega
      obtain rfl : l = [] := List.eq_nil_of_length_eq_zero hl
      rw [run_convert_bytes_string w src dst e _ 0 c hs he hd, run_bytesToString w ad 0 c [] (by simp [loadCells, loadCellsFrom, Sem.run_pure])]
      rfl

theorem Bts.of_own {w : World} {B E n : Nat} {v : Value} {l : List UInt8} (h : w.ownsRow B E 1 v n (l.map bv)) (hr : n ≤ 140737488355328) :
    ∃ a c, v = .slice a n c ∧ Bts w a n c l := by
  have hl : l.length = n := by simpa using h.1
  rcases h.2 with ⟨rfl, rfl⟩ | ⟨g, cap, cur, rfl, _, hg, hn, hm, hs, ht⟩
  · exact ⟨none, 0, rfl, hl, Nat.le_refl _, by omega, by omega, fun _ => rfl, fun j hj => by omega⟩
  · unfold maxLen at hm
    refine ⟨_, cap, rfl, hl, hn, hr, hm, fun e => (by cases e), fun j hj => ⟨g, 0, rfl, ?_⟩⟩
    rw [Nat.zero_add, cell_of_row w g j cur E (0, 0) hg]
    have hj' : (cur.toList.take (n * 1))[j]? = (l.map bv)[j]? := by rw [ht]
    rw [List.getElem?_take, if_pos (by omega)] at hj'
    rw [← Array.getElem?_toList, hj']
    simp [bv, List.getElem?_eq_getElem (show j < l.length by omega)]

/-- what is told of a slice of integers that came in (as the guide's own shell has it) -/
def IsRow (k : IntKind) (w : World) (a : Option Addr) (len cap : Nat) (zs : List Int) : Prop :=
  (a = none ∧ len = 0 ∧ cap = 0 ∧ zs = []) ∨
  ∃ x, a = some x ∧ len ≤ cap ∧ cap ≤ maxLen ∧ zs.length = cap ∧ (∀ i, i < zs.length → w.cell? (x.add i) = some (.int k (zs.getD i 0))) ∧ ∀ n ∈ zs, (Lit.int k n).wf = true

/-- numbers as bytes -/
def toBytes (zs : List Int) : List UInt8 := zs.map fun z => UInt8.ofNat z.toNat

theorem IsRow.le {k : IntKind} {w : World} {a : Option Addr} {len cap : Nat} {zs : List Int} (h : IsRow k w a len cap zs) : len ≤ cap ∧ cap ≤ 9223372036854775807 ∧ zs.length = cap := by
  rcases h with ⟨_, rfl, rfl, rfl⟩ | ⟨x, _, h1, h2, h3, _⟩
  · exact ⟨Nat.le_refl _, by omega, rfl⟩
  · unfold maxLen at h2; exact ⟨h1, h2, h3⟩

theorem Bts.of_row {w : World} {a : Option Addr} {len cap : Nat} {zs : List Int} (h : IsRow .u8 w a len cap zs) (k : Nat) (hk : k ≤ len) (hr : k ≤ 140737488355328) :
    Bts w a k cap (toBytes (zs.take k)) := by
  have hle := h.le
  rcases h with ⟨rfl, rfl, rfl, rfl⟩ | ⟨x, rfl, h1, h2, h3, h4, h5⟩
  · exact ⟨by simp [toBytes]; omega, by omega, hr, by omega, fun _ => rfl, fun j hj => by omega⟩
  · refine ⟨by simp [toBytes]; omega, by omega, hr, hle.2.1, fun e => (by cases e), fun j hj => ?_⟩
    have hc := h4 j (by omega)
    have hx : x.spot = none := by
      have h0 := h4 0 (by omega)
      simp only [Addr.add, if_pos, World.cell?] at h0
      split at h0
      · cases hs : x.spot with
        | none => rfl
        | some s => simp [hs] at h0
      · cases h0
    obtain ⟨b, o, s⟩ := x
    simp only at hx
    subst hx
    refine ⟨b, o, rfl, ?_⟩
    have ha : (⟨b, o, none⟩ : Addr).add j = ⟨b, o + j, none⟩ := by unfold Addr.add; split <;> simp_all
    rw [← ha, hc]
    have hz : zs.getD j 0 ∈ zs := by
      rw [List.getD_eq_getElem?_getD, List.getElem?_eq_getElem (show j < zs.length by omega)]
      exact List.getElem_mem _
    have hw := h5 _ hz
    have hb : 0 ≤ zs.getD j 0 ∧ zs.getD j 0 ≤ 255 := by
      simpa [Lit.wf, IntKind.min, IntKind.max, IntKind.signed, IntKind.bits] using hw
    have e : (toBytes (zs.take k)).getD j 0 = UInt8.ofNat (zs.getD j 0).toNat := by
      simp [toBytes, List.getD_eq_getElem?_getD, hj, List.getElem?_eq_getElem (show j < zs.length by omega)]
    rw [e]
    generalize zs.getD j 0 = z at *
    congr 2
    simp
    omega

/-- a new block that holds bytes -/
theorem Bts.new {w : World} {e : TypeId} {m : Nat × Nat} (l : List UInt8) (hl : l.length ≤ 140737488355328) : Bts (w.alloc (.cells (l.map bv).toArray e m)) (some ⟨w.heap.size, 0, none⟩) l.length l.length l := by
  refine ⟨rfl, Nat.le_refl _, hl, by omega, fun e => (by cases e), fun j hj => ⟨_, _, rfl, ?_⟩⟩
  have h1 : (w.alloc (.cells (l.map bv).toArray e m)).heap[w.heap.size]? = some (.cells (l.map bv).toArray e m) := heap_alloc_new w _
  simp only [World.cell?, h1]
  simp [bv, List.getD_eq_getElem?_getD, List.getElem?_eq_getElem hj]

/-- the same at one operation of a region that draws its order -/
theorem step_app1 {P : Program} {w : World} {ops : Array Oper} {o : Oper} {a : Act} {K : Act → World → Prop} {Q : Exit → Act → World → Prop} {E : Prop} (hgd : o.guard = none) (s x : Operand) (t : TypeId)
    (ho : o.op = .call { callee := .builtin .append, args := #[s, x], argTypes := #[t, t] })
    (base : Nat) (e : TypeId) (i : TypeInfo) (z : Value) (bytes : Nat) (ht : P.underlying t = some (.slice e)) (hi : P.info? e = some i) (hz : i.zero = some z)
    (hsize : i.size = 1) (hby : i.bytes = bytes) (hzs : z.cells.size = 1)
    (v : Value) (n : Nat) (xs : List Value) (hs : a.eval s = v) (hown : w.ownsRow base e 1 v n xs)
    (q : Value) (hq : q.oneCell' = true) (hx : a.eval x = .slice (some ⟨w.heap.size, 0, none⟩) 1 1)
    (hmax : n + 1 ≤ maxLen) (hbytes : (n + 1) * bytes ≤ 140737488355328) (hbase : base ≤ w.heap.size)
    (h : ∀ v' w', w'.ownsRow base e 1 v' (n + 1) (xs ++ [q]) → w.grownBy w' v.ownBlock → K (a.put o.dst v') w') :
    if Region.wanted o (yielded ops a.tmps) = true then Oper.wp P o a (w.alloc (.cells #[q] e)) K Q else E := by
  have hw : Region.wanted o (yielded ops a.tmps) = true := by simp [Region.wanted, hgd]
  rw [if_pos hw]
  refine wp_append_own _ s x t ho base e i z 1 bytes ht hi hz hsize hby hzs (by decide) v n xs hs (hown.alloc _) ⟨w.heap.size, 0, none⟩ 1 1 [q] hx rfl ?_ ?_ hmax hbytes (by simp; omega) ?_
  · intro j u hj
    match j, hj with
    | 0, hj => simp at hj; subst hj; simp [Addr.add]
  · intro u hu; simp at hu; subst hu; exact hq
  · intro v' w' ho' hg _
    refine h v' w' ho' ⟨hg.os, hg.tape, hg.output, ?_, ?_⟩
    · have := hg.size; simp at this; omega
    · intro k hk hne
      rw [hg.block k (by simp; omega) hne]
      exact Below.heap_alloc _ _ _ hk

/-- append of one cell that lies in a new block of its own, onto an own row -/
theorem wp_app1 {P : Program} {w : World} {ops : Array Oper} {rest : List Oper} {o : Oper} {a : Act} {Q : Exit → Act → World → Prop} (hgd : o.guard = none) (s x : Operand) (t : TypeId)
    (ho : o.op = .call { callee := .builtin .append, args := #[s, x], argTypes := #[t, t] })
    (base : Nat) (e : TypeId) (i : TypeInfo) (z : Value) (bytes : Nat) (ht : P.underlying t = some (.slice e)) (hi : P.info? e = some i) (hz : i.zero = some z)
    (hsize : i.size = 1) (hby : i.bytes = bytes) (hzs : z.cells.size = 1)
    (v : Value) (n : Nat) (xs : List Value) (hs : a.eval s = v) (hown : w.ownsRow base e 1 v n xs)
    (q : Value) (hq : q.oneCell' = true) (hx : a.eval x = .slice (some ⟨w.heap.size, 0, none⟩) 1 1)
    (hmax : n + 1 ≤ maxLen) (hbytes : (n + 1) * bytes ≤ 140737488355328) (hbase : base ≤ w.heap.size)
    (h : ∀ v' w', w'.ownsRow base e 1 v' (n + 1) (xs ++ [q]) → w.grownBy w' v.ownBlock → wpList P ops Q rest (a.put o.dst v') w') :
    wpList P ops Q (o :: rest) a (w.alloc (.cells #[q] e)) := by
  refine wpList_append_own _ hgd s x t ho base e i z 1 bytes ht hi hz hsize hby hzs (by decide) v n xs hs (hown.alloc _) ⟨w.heap.size, 0, none⟩ 1 1 [q] hx rfl ?_ ?_ hmax hbytes (by simp; omega) ?_
  · intro j u hj
    match j, hj with
    | 0, hj => simp at hj; subst hj; simp [Addr.add]
  · intro u hu; simp at hu; subst hu; exact hq
  · intro v' w' ho' hg _
    refine h v' w' ho' ⟨hg.os, hg.tape, hg.output, ?_, ?_⟩
    · have := hg.size; simp at this; omega
    · intro k hk hne
      rw [hg.block k (by simp; omega) hne]
      exact Below.heap_alloc _ _ _ hk

/-- append of some cells that lie in a new block of their own, onto an own row -/
theorem wp_appK {P : Program} {w : World} {ops : Array Oper} {rest : List Oper} {o : Oper} {a : Act} {Q : Exit → Act → World → Prop} (hgd : o.guard = none) (s x : Operand) (t : TypeId)
    (ho : o.op = .call { callee := .builtin .append, args := #[s, x], argTypes := #[t, t] })
    (base : Nat) (e : TypeId) (i : TypeInfo) (z : Value) (bytes : Nat) (ht : P.underlying t = some (.slice e)) (hi : P.info? e = some i) (hz : i.zero = some z)
    (hsize : i.size = 1) (hby : i.bytes = bytes) (hzs : z.cells.size = 1)
    (v : Value) (n : Nat) (xs : List Value) (hs : a.eval s = v) (hown : w.ownsRow base e 1 v n xs)
    (qs : List Value) (hq : ∀ u ∈ qs, u.oneCell' = true) (k : Nat) (hk : qs.length = k) (hx : a.eval x = .slice (some ⟨w.heap.size, 0, none⟩) k k)
    (hmax : n + k ≤ maxLen) (hbytes : (n + k) * bytes ≤ 140737488355328) (hbase : base ≤ w.heap.size)
    (h : ∀ v' w', w'.ownsRow base e 1 v' (n + k) (xs ++ qs) → w.grownBy w' v.ownBlock → wpList P ops Q rest (a.put o.dst v') w') :
    wpList P ops Q (o :: rest) a (w.alloc (.cells qs.toArray e)) := by
  refine wpList_append_own _ hgd s x t ho base e i z 1 bytes ht hi hz hsize hby hzs (by decide) v n xs hs (hown.alloc _) ⟨w.heap.size, 0, none⟩ k k qs hx (by omega) ?_ hq hmax hbytes (by simp; omega) ?_
  · intro j u hj
    have : (⟨w.heap.size, 0, none⟩ : Addr).add j = ⟨w.heap.size, j, none⟩ := by unfold Addr.add; split <;> simp_all
    rw [this, World.cell?_alloc_at _ _ _ _ rfl]
    simpa using hj
  · intro v' w' ho' hg _
    refine h v' w' ho' ⟨hg.os, hg.tape, hg.output, ?_, ?_⟩
    · have := hg.size; simp at this; omega
    · intro k hk hne
      rw [hg.block k (by simp; omega) hne]
      exact Below.heap_alloc _ _ _ hk

/-- append of all bytes of a slice onto an own row, at one operation of a region that draws its order -/
theorem step_appB {P : Program} {w : World} {ops : Array Oper} {o : Oper} {a : Act} {K : Act → World → Prop} {Q : Exit → Act → World → Prop} {E : Prop} (hgd : o.guard = none) (s x : Operand) (t : TypeId)
    (ho : o.op = .call { callee := .builtin .append, args := #[s, x], argTypes := #[t, t] })
    (base : Nat) (e : TypeId) (i : TypeInfo) (z : Value) (bytes : Nat) (ht : P.underlying t = some (.slice e)) (hi : P.info? e = some i) (hz : i.zero = some z)
    (hsize : i.size = 1) (hby : i.bytes = bytes) (hzs : z.cells.size = 1)
    (v : Value) (n : Nat) (xs : List Value) (hs : a.eval s = v) (hown : w.ownsRow base e 1 v n xs)
    (b off : Nat) (m c : Nat) (l : List UInt8) (hx : a.eval x = .slice (some ⟨b, off, none⟩) m c) (hB : Bts w (some ⟨b, off, none⟩) m c l)
    (hmax : n + m ≤ maxLen) (hbytes : (n + m) * bytes ≤ 140737488355328) (hbase : base ≤ w.heap.size)
    (h : ∀ v' w', w'.ownsRow base e 1 v' (n + m) (xs ++ l.map bv) → w.grownBy w' v.ownBlock → K (a.put o.dst v') w') :
    if Region.wanted o (yielded ops a.tmps) = true then Oper.wp P o a w K Q else E := by
  have hw : Region.wanted o (yielded ops a.tmps) = true := by simp [Region.wanted, hgd]
  rw [if_pos hw]
  have hl := hB.len
  refine wp_append_own _ s x t ho base e i z 1 bytes ht hi hz hsize hby hzs (by decide) v n xs hs hown ⟨b, off, none⟩ m c (l.map bv) hx (by simp [hl]) ?_ ?_ hmax hbytes hbase (fun v' w' h1 h2 _ => h v' w' h1 h2)
  · intro j u hj
    have hj' : j < l.length := by
      have := (List.getElem?_eq_some_iff.1 hj).1; simpa using this
    obtain ⟨b', o', e1, e2⟩ := hB.cell j (by omega)
    cases e1
    have : (⟨b, off, none⟩ : Addr).add j = ⟨b, off + j, none⟩ := by unfold Addr.add; split <;> simp_all
    rw [this, e2]
    simp [List.getElem?_map, List.getElem?_eq_getElem hj', bv] at hj
    simp [List.getD_eq_getElem?_getD, List.getElem?_eq_getElem hj', hj]
  · intro u hu
    obtain ⟨x, _, rfl⟩ := List.mem_map.1 hu
    rfl

/-- append of all bytes of a slice onto an own row -/
theorem wp_appB {P : Program} {w : World} {ops : Array Oper} {rest : List Oper} {o : Oper} {a : Act} {Q : Exit → Act → World → Prop} (hgd : o.guard = none) (s x : Operand) (t : TypeId)
    (ho : o.op = .call { callee := .builtin .append, args := #[s, x], argTypes := #[t, t] })
    (base : Nat) (e : TypeId) (i : TypeInfo) (z : Value) (bytes : Nat) (ht : P.underlying t = some (.slice e)) (hi : P.info? e = some i) (hz : i.zero = some z)
    (hsize : i.size = 1) (hby : i.bytes = bytes) (hzs : z.cells.size = 1)
    (v : Value) (n : Nat) (xs : List Value) (hs : a.eval s = v) (hown : w.ownsRow base e 1 v n xs)
    (ad : Option Addr) (m c : Nat) (l : List UInt8) (hx : a.eval x = .slice ad m c) (hB : Bts w ad m c l)
    (hmax : n + m ≤ maxLen) (hbytes : (n + m) * bytes ≤ 140737488355328) (hbase : base ≤ w.heap.size)
    (h : ∀ v' w', w'.ownsRow base e 1 v' (n + m) (xs ++ l.map bv) → w.grownBy w' v.ownBlock → wpList P ops Q rest (a.put o.dst v') w') :
    wpList P ops Q (o :: rest) a w := by
  have hl := hB.len
  cases ad with
  | none =>
    have hc := hB.nil rfl
    have hm := hB.cap
    obtain rfl : m = 0 := by omega
    subst hc
    obtain rfl : l = [] := List.eq_nil_of_length_eq_zero hl
    refine wpList_append_own_none hgd s x t ho base e i 1 ht hi v n xs hs hown hx (h _ _ (by simpa using hown) ⟨rfl, rfl, rfl, Nat.le_refl _, fun _ _ _ => rfl⟩)
  | some ad =>
    refine wpList_append_own _ hgd s x t ho base e i z 1 bytes ht hi hz hsize hby hzs (by decide) v n xs hs hown ad m c (l.map bv) hx (by simp [hl]) ?_ ?_ hmax hbytes hbase (fun v' w' h1 h2 _ => h v' w' h1 h2)
    · intro j u hj
      have hj' : j < l.length := by
        have := (List.getElem?_eq_some_iff.1 hj).1; simpa using this
      obtain ⟨b, o, e1, e2⟩ := hB.cell j (by omega)
      cases e1
      have : (⟨b, o, none⟩ : Addr).add j = ⟨b, o + j, none⟩ := by unfold Addr.add; split <;> simp_all
      rw [this, e2]
      simp [List.getElem?_map, List.getElem?_eq_getElem hj', bv] at hj
      simp [List.getD_eq_getElem?_getD, List.getElem?_eq_getElem hj', hj]
    · intro u hu
      obtain ⟨x, _, rfl⟩ := List.mem_map.1 hu
      rfl

theorem own_congr {w : World} {B E size n n' : Nat} {v : Value} {xs xs' : List Value} (h : w.ownsRow B E size v n xs) (hn : n = n') (hx : xs = xs') : w.ownsRow B E size v n' xs' := by
  subst hn; subst hx; exact h

theorem own_below {w w' : World} {B E size n B' : Nat} {v : Value} {xs : List Value} (h : w.ownsRow B E size v n xs) (hb : Below B' w w') (hB : w.heap.size ≤ B' := by exact Nat.le_refl _) : w'.ownsRow B E size v n xs := by
  refine ⟨h.1, ?_⟩
  rcases h.2 with h2 | ⟨g, cap, cur, hv, hg, hh, r⟩
  · exact Or.inl h2
  · exact Or.inr ⟨g, cap, cur, hv, hg, by rw [hb.block g (Nat.lt_of_lt_of_le (Array.getElem?_eq_some_iff.1 hh).1 hB)]; exact hh, r⟩

theorem own_mono {w : World} {B B' E size n : Nat} {v : Value} {xs : List Value} (h : w.ownsRow B E size v n xs) (hB : B' ≤ B) : w.ownsRow B' E size v n xs := by
  refine ⟨h.1, ?_⟩
  rcases h.2 with h2 | ⟨g, cap, cur, hv, hg, r⟩
  · exact Or.inl h2
  · exact Or.inr ⟨g, cap, cur, hv, Nat.le_trans hB hg, r⟩

theorem alloc_size (w : World) (o : Obj) : (w.alloc o).heap.size = w.heap.size + 1 := by simp
theorem below_alloc {B : Nat} {w0 w : World} (h : Below B w0 w) (o : Obj) (hB : B ≤ w0.heap.size) : Below B w0 (w.alloc o) := h.alloc (Nat.le_trans hB h.size) o

theorem below_of_drew {B : Nat} {w w' : World} (h : Below B w.drew w') : Below B w w' := ⟨h.os, h.tape, h.output, h.size, h.block⟩

theorem below_grown {B : Nat} {w0 w w' : World} {v : Value} {e : TypeId} {size n : Nat} {xs : List Value} (h : Below B w0 w) (ho : w.ownsRow B e size v n xs) (hg : w.grownBy w' v.ownBlock) (hB : B ≤ w.heap.size) : Below B w0 w' :=
  h.grown hg hB (fun k hk => (ho.lt k hk).1)
/-- a block of cells known whole -/
def Blk (w : World) (b : Nat) (cs : Array Value) (T : TypeId) : Prop := w.heap[b]? = some (.cells cs T (0, 0))
theorem Blk.lt {w : World} {b : Nat} {cs : Array Value} {T : TypeId} (h : Blk w b cs T) : b < w.heap.size := (Array.getElem?_eq_some_iff.1 h).1
theorem Blk.cell {w : World} {b : Nat} {cs : Array Value} {T : TypeId} (h : Blk w b cs T) (o : Nat) : w.cell? ⟨b, o, none⟩ = cs[o]? := by
  unfold Blk at h; simp [World.cell?, h]
theorem Blk.free {w : World} {b : Nat} {cs : Array Value} {T : TypeId} (h : Blk w b cs T) (o : Nat) (s : Option Nat) : w.frozen? ⟨b, o, s⟩ = false := by
  unfold Blk at h; simp [World.frozen?, h]
theorem Blk.set {w : World} {b : Nat} {cs : Array Value} {T : TypeId} (h : Blk w b cs T) (o : Nat) (v : Value) : Blk (w.setCell ⟨b, o, none⟩ v) b (cs.setIfInBounds o v) T := by
  unfold Blk at h ⊢
  simp only [World.setCell, Array.getElem?_modify, if_pos, h]
  simp
theorem Blk.below {w w' : World} {b B : Nat} {cs : Array Value} {T : TypeId} (h : Blk w b cs T) (hb : Below B w w') (hB : b < B) : Blk w' b cs T := by
  unfold Blk at h ⊢; rw [hb.block b hB]; exact h
theorem Blk.grown {w w' : World} {b : Nat} {row : Option Nat} {cs : Array Value} {T : TypeId} (h : Blk w b cs T) (hg : w.grownBy w' row) (hne : some b ≠ row) : Blk w' b cs T := by
  have := h.lt
  unfold Blk at h ⊢; rw [hg.block b this hne]; exact h
theorem grown_set {w : World} {b o : Nat} {v : Value} : w.grownBy (w.setCell ⟨b, o, none⟩ v) (some b) :=
  ⟨rfl, rfl, rfl, by simp [World.setCell], fun k _ hne => Below.heap_setCell _ _ _ _ (fun e => hne (by simp [e]))⟩
theorem grown_trans {w w' w'' : World} {row : Option Nat} (h : w.grownBy w' row) (k : w'.grownBy w'' row) : w.grownBy w'' row :=
  ⟨k.os.trans h.os, k.tape.trans h.tape, k.output.trans h.output, Nat.le_trans h.size k.size, fun i hi hn => (k.block i (Nat.lt_of_lt_of_le hi h.size) hn).trans (h.block i hi hn)⟩
theorem grown_refl (w : World) (row : Option Nat) : w.grownBy w row := ⟨rfl, rfl, rfl, Nat.le_refl _, fun _ _ _ => rfl⟩
theorem grown_new {w w1 : World} {row : Option Nat} {g o : Nat} {v : Value} (h : w.grownBy w1 row) (hg : w.heap.size ≤ g) : w.grownBy (w1.setCell ⟨g, o, none⟩ v) row :=
  ⟨h.os, h.tape, h.output, by simpa [World.setCell] using h.size, fun k hk hn => (Below.heap_setCell _ _ _ _ (show k ≠ g by omega)).trans (h.block k hk hn)⟩
theorem grown_below {w w' : World} (h : Below w.heap.size w w') (row : Option Nat) : w.grownBy w' row := ⟨h.os, h.tape, h.output, h.size, fun k hk _ => h.block k hk⟩
theorem grown_drewN (w : World) (n : Nat) (row : Option Nat) : w.grownBy (w.drewN n) row := grown_below (below_drewN (Below.refl _ _) n) row
theorem grown_drew (w : World) (row : Option Nat) : w.grownBy w.drew row := grown_below (Below.refl _ _).drew row
theorem below_grow {B b : Nat} {w0 w w' : World} (h : Below B w0 w) (hg : w.grownBy w' (some b)) (hB : B ≤ w.heap.size) (hb : B ≤ b) : Below B w0 w' :=
  h.grown hg hB (fun k hk => by cases hk; exact hb)
theorem Bts.grown {w w' : World} {a : Option Addr} {n c : Nat} {l : List UInt8} {b : Nat} (h : Bts w a n c l) (hg : w.grownBy w' (some b)) (hne : 0 < n → ∀ x, a = some x → x.block ≠ b) : Bts w' a n c l := by
  refine ⟨h.len, h.cap, h.reach, h.most, h.nil, fun j hj => ?_⟩
  obtain ⟨b', o, rfl, h2⟩ := h.cell j hj
  exact ⟨b', o, rfl, hg.cell h2 (fun e => hne (by omega) _ rfl (by cases e; rfl))⟩
theorem Bts.below2 {w w' : World} {a : Option Addr} {n c : Nat} {l : List UInt8} {B : Nat} (h : Bts w a n c l) (hb : Below B w w') (hB : 0 < n → ∀ x, a = some x → x.block < B) : Bts w' a n c l := by
  refine ⟨h.len, h.cap, h.reach, h.most, h.nil, fun j hj => ?_⟩
  obtain ⟨b', o, rfl, h2⟩ := h.cell j hj
  have hlt : b' < B := hB (by omega) ⟨b', o, none⟩ rfl
  exact ⟨b', o, rfl, by rw [hb.cell (p := ⟨b', o + j, none⟩) hlt]; exact h2⟩
/-- the block of a slice that is not empty was there -/
theorem Bts.blk {w : World} {a : Option Addr} {n c : Nat} {l : List UInt8} (h : Bts w a n c l) (hn : 0 < n) : ∀ x, a = some x → x.block < w.heap.size := by
  intro x hx
  obtain ⟨b', o, e, h2⟩ := h.cell 0 hn
  rw [hx] at e; cases e
  exact World.block_lt_of_cell? _ _ h2
theorem Bts.ne {w : World} {a : Option Addr} {n c : Nat} {l : List UInt8} (h : Bts w a n c l) {b : Nat} (hb : w.heap.size ≤ b) : 0 < n → ∀ x, a = some x → x.block ≠ b :=
  fun hn x hx => by have := h.blk hn x hx; omega
theorem own_bts {w : World} {B E n c : Nat} {a : Option Addr} {l : List UInt8} (h : w.ownsRow B E 1 (.slice a n c) n (l.map bv)) (hr : n ≤ 140737488355328) : Bts w a n c l := by
  obtain ⟨a', c', e, hB⟩ := Bts.of_own h hr
  cases e
  exact hB
theorem own_ne {w : World} {B E size n m c b : Nat} {a : Option Addr} {xs : List Value} (h : w.ownsRow B E size (.slice a m c) n xs) (hb : b < B) : ∀ x, a = some x → x.block ≠ b := by
  intro x hx
  have := (h.lt x.block (by rw [hx]; rfl)).1
  omega
theorem own_grown {w w' : World} {B E size n b : Nat} {v : Value} {xs : List Value} (h : w.ownsRow B E size v n xs) (hg : w.grownBy w' (some b)) (hb : b < B) : w'.ownsRow B E size v n xs :=
  h.kept hg (by
    cases hv : v.ownBlock with
    | none => exact Or.inl rfl
    | some k => exact Or.inr (by have := (h.lt k hv).1; simp; omega))

/-- n noughts -/
def mkB (n : Nat) : Array Value := (List.replicate n (Value.int .u8 0)).toArray
theorem madeCells_one (z : Value) (n : Nat) : madeCells #[z] n = (List.replicate n z).toArray := by
  apply Array.toList_inj.1
  rw [toList_madeCells_one]
theorem run_mkB {P : Program} {t e : TypeId} {i : TypeInfo} (ht : P.underlying t = some (.slice e)) (hi : P.info? e = some i) (hz : i.zero = some (.int .u8 0)) (hs : i.size = 1) (hb : i.bytes = 1)
    (n : Nat) (hn : n ≤ 140737488355328) (w : World) :
    (Instr.makeSlice t (.int .i64 n) (.int .i64 n)).run P w = .ok (.slice (some ⟨w.heap.size, 0, none⟩) n n) (w.alloc (.cells (mkB n) e)) := by
  have h := run_make (P := P) (w := w) t e i (.int .u8 0) ht hi hz .i64 .i64 (n : Int) (n : Int) (by omega) (by omega) (by rw [hb]; omega) (by omega)
  rw [hs, Nat.mul_one, show (Value.int IntKind.u8 0).cells = #[.int .u8 0] from rfl, madeCells_one, Int.toNat_natCast] at h
  exact h
theorem Blk.new (w : World) (cs : Array Value) (T : TypeId) : Blk (w.alloc (.cells cs T)) w.heap.size cs T := heap_alloc_new w _
theorem mkB_map (n : Nat) : mkB n = ((List.replicate n (0 : UInt8)).map bv).toArray := by simp [mkB, bv]
theorem own_nonnil {w : World} {B E n : Nat} {a : Option Addr} {m c : Nat} {xs : List Value} (h : w.ownsRow B E 1 (.slice a m c) n xs) (hn : 0 < n) : ∃ g, a = some ⟨g, 0, none⟩ := by
  rcases h.2 with ⟨hv, rfl⟩ | ⟨g, cap, cur, hv, _⟩
  · omega
  · cases hv; exact ⟨g, rfl⟩
theorem own_of_blk {w : World} {g B E n c : Nat} {cs : List Value} (h : Blk w g cs.toArray E) (hB : B ≤ g) (hn : n ≤ c) (hc : c ≤ maxLen) (hl : cs.length = c) : w.ownsRow B E 1 (.slice (some ⟨g, 0, none⟩) n c) n (cs.take n) :=
  ⟨by simp; omega, .inr ⟨g, c, cs.toArray, rfl, hB, h, hn, hc, by simpa using hl, by simp⟩⟩
theorem set_next (A : List Value) (z v : Value) (m : Nat) : (A ++ List.replicate (m + 1) z).set A.length v = A ++ [v] ++ List.replicate m z := by
  rw [List.set_append_right _ _ (Nat.le_refl _), Nat.sub_self, List.replicate_succ, List.set_cons_zero]; simp

theorem run_slice {P : Program} {t e : TypeId} {i : TypeInfo} (ht : P.underlying t = some (.slice e)) (hi : P.info? e = some i) (hs : i.size = 1) (a : Option Addr) (n c lo hi' : Nat) (h1 : lo ≤ hi') (h2 : hi' ≤ c) (w : World) :
    (Instr.slice t (.slice a n c) (some (.int .i64 (lo : Int))) (some (.int .i64 (hi' : Int))) none).run P w = .ok (.slice (if c = lo then a else a.map (·.add lo)) (hi' - lo) (c - lo)) w := by
  have h3 : (lo : Int) ≤ (hi' : Int) := by omega
  have h4 : (hi' : Int) ≤ (c : Int) := by omega
  simp [Instr.slice, run_underlying ht, Instr.sliceBounds, Instr.sliceBound, asIntOf, sizeOf, typeInfo, hi, hs, h1, h2]
theorem below_of_none {w w' : World} (hg : w.grownBy w' none) : Below w.heap.size w w' := ⟨hg.os, hg.tape, hg.output, hg.size, fun k hk => hg.block k hk (by simp)⟩
theorem own_ge {w : World} {B E size n m c : Nat} {a : Option Addr} {xs : List Value} (h : w.ownsRow B E size (.slice a m c) n xs) : ∀ x, a = some x → B ≤ x.block ∧ x.block < w.heap.size := by
  intro x hx
  rcases h.2 with ⟨h2, _⟩ | ⟨g, cap, cur, hv, hg, hh, _⟩
  · cases h2; cases hx
  · cases hv; cases hx; exact ⟨hg, (Array.getElem?_eq_some_iff.1 hh).1⟩
end Go.Proofs.Ytdfoimgckahjpaa
