/-
  Frames for objects whose rows may move when they grow: which blocks a call may write, where a grown row lies; append with that said. No conditions.
-/
import Derived.Test.YtdfoimgckahjpaaLib
import Derived.Maps.AppendAt
namespace Go.Proofs.Ytdfoimgckahjpaa
open Go.RowKit
/-- all blocks of w but those of K are in w' as they were -/
structure ButOf (K : Nat → Prop) (w w' : World) : Prop where
  os : w'.os = w.os
  tape : w'.tape = w.tape
  output : w'.output = w.output
  size : w.heap.size ≤ w'.heap.size
  block : ∀ k, k < w.heap.size → ¬ K k → w'.heap[k]? = w.heap[k]?
theorem ButOf.refl (K : Nat → Prop) (w : World) : ButOf K w w := ⟨rfl, rfl, rfl, Nat.le_refl _, fun _ _ _ => rfl⟩
theorem ButOf.trans {K : Nat → Prop} {w w' w'' : World} (h : ButOf K w w') (k : ButOf K w' w'') : ButOf K w w'' :=
  ⟨k.os.trans h.os, k.tape.trans h.tape, k.output.trans h.output, Nat.le_trans h.size k.size, fun i hi hn => (k.block i (Nat.lt_of_lt_of_le hi h.size) hn).trans (h.block i hi hn)⟩
/-- behind w another set may be written, if what is old of it is in K -/
theorem ButOf.after {K K' : Nat → Prop} {w w' w'' : World} (h : ButOf K w w') (k : ButOf K' w' w'') (hK : ∀ i, i < w.heap.size → K' i → K i) : ButOf K w w'' :=
  ⟨k.os.trans h.os, k.tape.trans h.tape, k.output.trans h.output, Nat.le_trans h.size k.size, fun i hi hn => (k.block i (Nat.lt_of_lt_of_le hi h.size) (fun e => hn (hK i hi e))).trans (h.block i hi hn)⟩
theorem ButOf.mono {K K' : Nat → Prop} {w w' : World} (h : ButOf K w w') (hK : ∀ i, i < w.heap.size → K i → K' i) : ButOf K' w w' :=
  ⟨h.os, h.tape, h.output, h.size, fun i hi hn => h.block i hi (fun e => hn (hK i hi e))⟩
theorem ButOf.of_below {K : Nat → Prop} {w w' : World} (h : Below w.heap.size w w') : ButOf K w w' := ⟨h.os, h.tape, h.output, h.size, fun k hk _ => h.block k hk⟩
theorem ButOf.of_grown {K : Nat → Prop} {w w' : World} {row : Option Nat} (h : w.grownBy w' row) (hK : ∀ k, row = some k → K k) : ButOf K w w' :=
  ⟨h.os, h.tape, h.output, h.size, fun k hk hn => h.block k hk (fun e => hn (hK k e.symm))⟩
theorem ButOf.set {K : Nat → Prop} {w w' : World} (h : ButOf K w w') {b o : Nat} (v : Value) (hb : K b ∨ w.heap.size ≤ b) : ButOf K w (w'.setCell ⟨b, o, none⟩ v) :=
  ⟨h.os, h.tape, h.output, by simpa [World.setCell] using h.size, fun k hk hn => (Below.heap_setCell _ _ _ _ (fun e => by
    have e : k = b := e
    rcases hb with hb | hb
    · exact hn (e ▸ hb)
    · omega)).trans (h.block k hk hn)⟩
theorem ButOf.drewN {K : Nat → Prop} {w w' : World} (h : ButOf K w w') (n : Nat) : ButOf K w (w'.drewN n) := ⟨h.os, h.tape, h.output, h.size, h.block⟩
theorem ButOf.drew {K : Nat → Prop} {w w' : World} (h : ButOf K w w') : ButOf K w w'.drew := ⟨h.os, h.tape, h.output, h.size, h.block⟩
theorem ButOf.below {K : Nat → Prop} {w w' : World} {B : Nat} (h : ButOf K w w') (hK : ∀ k, K k → B ≤ k) (hB : B ≤ w.heap.size) : Below B w w' :=
  ⟨h.os, h.tape, h.output, h.size, fun k hk => h.block k (Nat.lt_of_lt_of_le hk hB) (fun e => by have := hK k e; omega)⟩
theorem Blk.but {K : Nat → Prop} {w w' : World} {b : Nat} {cs : Array Value} {T : TypeId} (h : Blk w b cs T) (hb : ButOf K w w') (hn : ¬ K b) : Blk w' b cs T := by
  have := h.lt
  unfold Blk at h ⊢; rw [hb.block b this hn]; exact h
theorem Bts.but {K : Nat → Prop} {w w' : World} {a : Option Addr} {n c : Nat} {l : List UInt8} (h : Bts w a n c l) (hb : ButOf K w w') (hn : 0 < n → ∀ x, a = some x → ¬ K x.block) : Bts w' a n c l := by
  refine ⟨h.len, h.cap, h.reach, h.most, h.nil, fun j hj => ?_⟩
  obtain ⟨b', o, rfl, h2⟩ := h.cell j hj
  refine ⟨b', o, rfl, ?_⟩
  have hlt := World.block_lt_of_cell? _ _ h2
  have := hb.block b' hlt (hn (by omega) _ rfl)
  rw [World.cell?_of_block this]; exact h2
theorem own_but {K : Nat → Prop} {w w' : World} {B E size n : Nat} {v : Value} {xs : List Value} (h : w.ownsRow B E size v n xs) (hb : ButOf K w w') (hn : ∀ k, v.ownBlock = some k → ¬ K k) : w'.ownsRow B E size v n xs := by
  refine ⟨h.1, ?_⟩
  rcases h.2 with h2 | ⟨g, cap, cur, rfl, hg, hh, r⟩
  · exact Or.inl h2
  · exact Or.inr ⟨g, cap, cur, rfl, hg, by rw [hb.block g (Array.getElem?_eq_some_iff.1 hh).1 (hn g rfl)]; exact hh, r⟩
/-- the row v1 lies where v0 lay, or in what is new since w -/
def Next (w : World) (v0 v1 : Value) : Prop := ∀ k, v1.ownBlock = some k → v0.ownBlock = some k ∨ w.heap.size ≤ k
theorem Next.refl (w : World) (v : Value) : Next w v v := fun _ h => .inl h
theorem Next.trans {w w1 : World} {v0 v1 v2 : Value} (h : Next w v0 v1) (k : Next w1 v1 v2) (hs : w.heap.size ≤ w1.heap.size) : Next w v0 v2 := fun i hi => by
  rcases k i hi with e | e
  · exact h i e
  · exact .inr (Nat.le_trans hs e)
theorem Next.of_at {w : World} {v v' : Value} (h : v'.ownBlock = v.ownBlock ∨ v'.ownBlock = some w.heap.size) : Next w v v' := fun k hk => by
  rcases h with e | e
  · exact .inl (by rw [← e]; exact hk)
  · rw [e] at hk; cases hk; exact .inr (Nat.le_refl _)
/-- the blocks of an object: its own, and its row's -/
def Foot (b : Nat) (v : Value) (k : Nat) : Prop := k = b ∨ v.ownBlock = some k
theorem ButOf.next {w w1 w2 : World} {b : Nat} {v0 v1 : Value} (h : ButOf (Foot b v0) w w1) (k : ButOf (Foot b v1) w1 w2) (hn : Next w v0 v1) : ButOf (Foot b v0) w w2 :=
  h.after k (fun i hi hf => by
    rcases hf with e | e
    · exact .inl e
    · rcases hn i e with e | e
      · exact .inr e
      · omega)
/-- an owned row's block and a block of another type differ -/
theorem own_blk_ne {w : World} {B E size n : Nat} {v : Value} {xs : List Value} {b : Nat} {cs : Array Value} {T : TypeId} (h : w.ownsRow B E size v n xs) (hb : Blk w b cs T) (hT : E ≠ T) : v.ownBlock ≠ some b := by
  rcases h.2 with ⟨rfl, _⟩ | ⟨g, cap, cur, rfl, _, hh, _⟩
  · simp [Value.ownBlock]
  · intro he
    have : g = b := by simpa [Value.ownBlock] using he
    subst this
    unfold Blk at hb
    rw [hh] at hb
    injection hb with hb
    injection hb with _ ht
    exact hT ht
theorem blk_ne {w : World} {b b' : Nat} {cs cs' : Array Value} {T T' : TypeId} (h : Blk w b cs T) (h' : Blk w b' cs' T') (hT : T ≠ T') : b ≠ b' := by
  rintro rfl
  unfold Blk at h h'
  rw [h] at h'
  injection h' with h'
  injection h' with _ ht
  exact hT ht
theorem own_ownlt {w : World} {B E size n : Nat} {v : Value} {xs : List Value} (h : w.ownsRow B E size v n xs) {k : Nat} (hk : v.ownBlock = some k) : B ≤ k ∧ k < w.heap.size := h.lt k hk
theorem below_frame {K : Nat → Prop} {B : Nat} {w0 w w' : World} (h : Below B w0 w) (hb : ButOf K w w') (hK : ∀ k, k < w.heap.size → K k → B ≤ k) (hB : B ≤ w.heap.size) : Below B w0 w' :=
  h.trans ((hb.mono (K' := fun k => B ≤ k) hK).below (fun _ h => h) hB)

/-- append of one cell that lies in a new block of its own, onto an own row; where the new row lies -/
theorem wp_app1_at {P : Program} {w : World} {ops : Array Oper} {rest : List Oper} {o : Oper} {a : Act} {Q : Exit → Act → World → Prop} (hgd : o.guard = none) (s x : Operand) (t : TypeId)
    (ho : o.op = .call { callee := .builtin .append, args := #[s, x], argTypes := #[t, t] })
    (base : Nat) (e : TypeId) (i : TypeInfo) (z : Value) (bytes : Nat) (ht : P.underlying t = some (.slice e)) (hi : P.info? e = some i) (hz : i.zero = some z)
    (hsize : i.size = 1) (hby : i.bytes = bytes) (hzs : z.cells.size = 1)
    (v : Value) (n : Nat) (xs : List Value) (hs : a.eval s = v) (hown : w.ownsRow base e 1 v n xs)
    (q : Value) (hq : q.oneCell' = true) (hx : a.eval x = .slice (some ⟨w.heap.size, 0, none⟩) 1 1)
    (hmax : n + 1 ≤ maxLen) (hbytes : (n + 1) * bytes ≤ 140737488355328) (hbase : base ≤ w.heap.size)
    (h : ∀ v' w', w'.ownsRow base e 1 v' (n + 1) (xs ++ [q]) → w.grownBy w' v.ownBlock → Next w v v' → wpList P ops Q rest (a.put o.dst v') w') :
    wpList P ops Q (o :: rest) a (w.alloc (.cells #[q] e)) := by
  refine wpList_append_own_at _ hgd s x t ho base e i z 1 bytes ht hi hz hsize hby hzs (by decide) v n xs hs (hown.alloc _) ⟨w.heap.size, 0, none⟩ 1 1 [q] hx rfl ?_ ?_ hmax hbytes (by simp; omega) ?_
  · intro j u hj
    match j, hj with
    | 0, hj => simp at hj; subst hj; simp [Addr.add]
  · intro u hu; simp at hu; subst hu; exact hq
  · intro v' w' ho' hg _ hat
    refine h v' w' ho' ⟨hg.os, hg.tape, hg.output, ?_, ?_⟩ ?_
    · have := hg.size; simp at this; omega
    · intro k hk hne
      rw [hg.block k (by simp; omega) hne]
      exact Below.heap_alloc _ _ _ hk
    · intro k hk
      rcases hat with e | e
      · exact .inl (by rw [← e]; exact hk)
      · rw [e] at hk; cases hk; right; simp
/-- append of all bytes of a slice onto an own row; where the new row lies -/
theorem wp_appB_at {P : Program} {w : World} {ops : Array Oper} {rest : List Oper} {o : Oper} {a : Act} {Q : Exit → Act → World → Prop} (hgd : o.guard = none) (s x : Operand) (t : TypeId)
    (ho : o.op = .call { callee := .builtin .append, args := #[s, x], argTypes := #[t, t] })
    (base : Nat) (e : TypeId) (i : TypeInfo) (z : Value) (bytes : Nat) (ht : P.underlying t = some (.slice e)) (hi : P.info? e = some i) (hz : i.zero = some z)
    (hsize : i.size = 1) (hby : i.bytes = bytes) (hzs : z.cells.size = 1)
    (v : Value) (n : Nat) (xs : List Value) (hs : a.eval s = v) (hown : w.ownsRow base e 1 v n xs)
    (ad : Option Addr) (m c : Nat) (l : List UInt8) (hx : a.eval x = .slice ad m c) (hB : Bts w ad m c l)
    (hmax : n + m ≤ maxLen) (hbytes : (n + m) * bytes ≤ 140737488355328) (hbase : base ≤ w.heap.size)
    (h : ∀ v' w', w'.ownsRow base e 1 v' (n + m) (xs ++ l.map bv) → w.grownBy w' v.ownBlock → Next w v v' → wpList P ops Q rest (a.put o.dst v') w') :
    wpList P ops Q (o :: rest) a w := by
  have hl := hB.len
  cases ad with
  | none =>
    have hc := hB.nil rfl
    have hm := hB.cap
    obtain rfl : m = 0 := by omega
    subst hc
    obtain rfl : l = [] := List.eq_nil_of_length_eq_zero hl
    refine wpList_append_own_none hgd s x t ho base e i 1 ht hi v n xs hs hown hx (h _ _ (by simpa using hown) ⟨rfl, rfl, rfl, Nat.le_refl _, fun _ _ _ => rfl⟩ (Next.refl _ _))
  | some ad =>
    refine wpList_append_own_at _ hgd s x t ho base e i z 1 bytes ht hi hz hsize hby hzs (by decide) v n xs hs hown ad m c (l.map bv) hx (by simp [hl]) ?_ ?_ hmax hbytes hbase (fun v' w' h1 h2 _ h4 => h v' w' h1 h2 (Next.of_at h4))
    · intro j u hj
      have hj' : j < l.length := by
        have := (List.getElem?_eq_some_iff.1 hj).1; simpa using this
      obtain ⟨b, o, e1, e2⟩ := hB.cell j (by omega)
      cases e1
      have : (⟨b, o, none⟩ : Addr).add j = ⟨b, o + j, none⟩ := by unfold Addr.add; split <;> simp_all
      rw [this, e2]
      simp [List.getElem?_map, List.getElem?_eq_getElem hj', bv] at hj
      simp [List.getD_eq_getElem?_getD, List.getElem?_eq_getElem hj', hj]
    · intro u hu
      obtain ⟨x, _, rfl⟩ := List.mem_map.1 hu
      rfl
/-- what grew behind new blocks and draws grew from the world ahead of them -/
theorem grown_of {w W w' : World} {row : Option Nat} (h : Below w.heap.size w W) (hg : W.grownBy w' row) : w.grownBy w' row :=
  ⟨hg.os.trans h.os, hg.tape.trans h.tape, hg.output.trans h.output, Nat.le_trans h.size hg.size, fun k hk hne => (hg.block k (Nat.lt_of_lt_of_le hk h.size) hne).trans (h.block k hk)⟩
theorem Next.of_below {w W : World} {v v' : Value} (h : Next W v v') (hb : w.heap.size ≤ W.heap.size) : Next w v v' := fun k hk => by
  rcases h k hk with e | e
  · exact .inl e
  · exact .inr (Nat.le_trans hb e)
/-- the same at one operation of a region that draws its order -/
theorem step_app1_at {P : Program} {w : World} {ops : Array Oper} {o : Oper} {a : Act} {K : Act → World → Prop} {Q : Exit → Act → World → Prop} {E : Prop} (hgd : o.guard = none) (s x : Operand) (t : TypeId)
    (ho : o.op = .call { callee := .builtin .append, args := #[s, x], argTypes := #[t, t] })
    (base : Nat) (e : TypeId) (i : TypeInfo) (z : Value) (bytes : Nat) (ht : P.underlying t = some (.slice e)) (hi : P.info? e = some i) (hz : i.zero = some z)
    (hsize : i.size = 1) (hby : i.bytes = bytes) (hzs : z.cells.size = 1)
    (v : Value) (n : Nat) (xs : List Value) (hs : a.eval s = v) (hown : w.ownsRow base e 1 v n xs)
    (q : Value) (hq : q.oneCell' = true) (hx : a.eval x = .slice (some ⟨w.heap.size, 0, none⟩) 1 1)
    (hmax : n + 1 ≤ maxLen) (hbytes : (n + 1) * bytes ≤ 140737488355328) (hbase : base ≤ w.heap.size)
    (h : ∀ v' w', w'.ownsRow base e 1 v' (n + 1) (xs ++ [q]) → w.grownBy w' v.ownBlock → Next w v v' → K (a.put o.dst v') w') :
    if Region.wanted o (yielded ops a.tmps) = true then Oper.wp P o a (w.alloc (.cells #[q] e)) K Q else E := by
  have hw : Region.wanted o (yielded ops a.tmps) = true := by simp [Region.wanted, hgd]
  rw [if_pos hw]
  obtain ⟨v', w', hr, ho', hg, _, hat⟩ := run_append_own_at (P := P) (w.alloc (.cells #[q] e)) base t o.type e i z 1 bytes ht hi hz hsize hby hzs (by decide) v n xs (hown.alloc _) ⟨w.heap.size, 0, none⟩ 1 1 [q] rfl
    (by intro j u hj
        match j, hj with
        | 0, hj => simp at hj; subst hj; simp [Addr.add])
    (by intro u hu; simp at hu; subst hu; exact hq) hmax hbytes (by simp; omega)
  unfold Oper.wp execOp
  simp only [ho, resolve, invoke, builtin, Sem.run_bind, Sem.run_pure, Result.andThen_ok, List.map_toArray, List.map_cons, List.map_nil, hs, hx, hr]
  refine h v' w' ho' ⟨hg.os, hg.tape, hg.output, ?_, ?_⟩ ?_
  · have := hg.size; simp at this; omega
  · intro k hk hne
    rw [hg.block k (by simp; omega) hne]
    exact Below.heap_alloc _ _ _ hk
  · intro k hk
    rcases hat with e | e
    · exact .inl (by rw [← e]; exact hk)
    · rw [e] at hk; cases hk; right; simp
theorem step_appB_at {P : Program} {w : World} {ops : Array Oper} {o : Oper} {a : Act} {K : Act → World → Prop} {Q : Exit → Act → World → Prop} {E : Prop} (hgd : o.guard = none) (s x : Operand) (t : TypeId)
    (ho : o.op = .call { callee := .builtin .append, args := #[s, x], argTypes := #[t, t] })
    (base : Nat) (e : TypeId) (i : TypeInfo) (z : Value) (bytes : Nat) (ht : P.underlying t = some (.slice e)) (hi : P.info? e = some i) (hz : i.zero = some z)
    (hsize : i.size = 1) (hby : i.bytes = bytes) (hzs : z.cells.size = 1)
    (v : Value) (n : Nat) (xs : List Value) (hs : a.eval s = v) (hown : w.ownsRow base e 1 v n xs)
    (ad : Option Addr) (m c : Nat) (l : List UInt8) (hx : a.eval x = .slice ad m c) (hB : Bts w ad m c l)
    (hmax : n + m ≤ maxLen) (hbytes : (n + m) * bytes ≤ 140737488355328) (hbase : base ≤ w.heap.size)
    (h : ∀ v' w', w'.ownsRow base e 1 v' (n + m) (xs ++ l.map bv) → w.grownBy w' v.ownBlock → Next w v v' → K (a.put o.dst v') w') :
    if Region.wanted o (yielded ops a.tmps) = true then Oper.wp P o a w K Q else E := by
  have hw : Region.wanted o (yielded ops a.tmps) = true := by simp [Region.wanted, hgd]
  rw [if_pos hw]
  have hl := hB.len
  cases ad with
  | none =>
    have hc := hB.nil rfl
    have hm := hB.cap
    obtain rfl : m = 0 := by omega
    subst hc
    obtain rfl : l = [] := List.eq_nil_of_length_eq_zero hl
    have hrun := run_append_owned_none (P := P) (w := w) base t o.type e i 1 ht hi v n xs hown
    unfold Oper.wp
    simp only [execOp, ho, resolve, invoke, builtin, Sem.run_bind, Sem.run_pure, Result.andThen_ok, List.map_toArray, List.map_cons, List.map_nil, hs, hx, hrun]
    exact h _ _ (by simpa using hown) ⟨rfl, rfl, rfl, Nat.le_refl _, fun _ _ _ => rfl⟩ (Next.refl _ _)
  | some ad =>
    obtain ⟨v', w', hr, ho', hg, _, hat⟩ := run_append_own_at (P := P) w base t o.type e i z 1 bytes ht hi hz hsize hby hzs (by decide) v n xs hown ad m c (l.map bv) (by simp [hl])
      (by intro j u hj
          have hj' : j < l.length := by
            have := (List.getElem?_eq_some_iff.1 hj).1; simpa using this
          obtain ⟨b, o, e1, e2⟩ := hB.cell j (by omega)
          cases e1
          have : (⟨b, o, none⟩ : Addr).add j = ⟨b, o + j, none⟩ := by unfold Addr.add; split <;> simp_all
          rw [this, e2]
          simp [List.getElem?_map, List.getElem?_eq_getElem hj', bv] at hj
          simp [List.getD_eq_getElem?_getD, List.getElem?_eq_getElem hj', hj])
      (by intro u hu
          obtain ⟨x, _, rfl⟩ := List.mem_map.1 hu
          rfl) hmax hbytes hbase
    unfold Oper.wp execOp
    simp only [ho, resolve, invoke, builtin, Sem.run_bind, Sem.run_pure, Result.andThen_ok, List.map_toArray, List.map_cons, List.map_nil, hs, hx, hr]
    exact h v' w' ho' hg (Next.of_at hat)
end Go.Proofs.Ytdfoimgckahjpaa
