/-
  A row that is cut at its front and appended to: what it holds, and the append. No conditions.
-/
import Derived.Test.YtjcigaonadkhkaaFrame
namespace Go.Proofs.Ytjcigaonadkhkaa
open Go.RowKit
/-- the slice v holds l; its block lies at B or above -/
def Que (w : World) (B : Nat) (E : TypeId) (v : Value) (l : List Value) : Prop :=
  (v = .slice none 0 0 ∧ l = []) ∨
  ∃ g off cap cur, v = .slice (some ⟨g, off, none⟩) l.length cap ∧ B ≤ g ∧ w.heap[g]? = some (.cells cur E (0, 0)) ∧ l.length ≤ cap ∧ cap ≤ maxLen ∧ off + cap ≤ cur.size ∧ (cur.toList.drop off).take l.length = l
section
variable {w w' : World} {B : Nat} {E : TypeId} {v : Value} {l : List Value}
theorem Que.nil (w : World) (B : Nat) (E : TypeId) : Que w B E (.slice none 0 0) [] := .inl ⟨rfl, rfl⟩
theorem Que.lt (h : Que w B E v l) {k : Nat} (hk : v.ownBlock = some k) : B ≤ k ∧ k < w.heap.size := by
  rcases h with ⟨rfl, _⟩ | ⟨g, off, cap, cur, rfl, hb, hg, _⟩
  · simp [Value.ownBlock] at hk
  · simp [Value.ownBlock] at hk
    subst hk
    exact ⟨hb, (Array.getElem?_eq_some_iff.1 hg).1⟩
theorem Que.form (h : Que w B E v l) : ∃ a c, v = .slice a l.length c := by
  rcases h with ⟨rfl, rfl⟩ | ⟨g, off, cap, cur, rfl, _⟩
  · exact ⟨none, 0, rfl⟩
  · exact ⟨_, _, rfl⟩
theorem Que.but {K : Nat → Prop} (h : Que w B E v l) (hb : ButOf K w w') (hn : ∀ k, v.ownBlock = some k → ¬ K k) : Que w' B E v l := by
  rcases h with h | ⟨g, off, cap, cur, rfl, h1, hg, r⟩
  · exact .inl h
  · exact .inr ⟨g, off, cap, cur, rfl, h1, by rw [hb.block g (Array.getElem?_eq_some_iff.1 hg).1 (hn g rfl)]; exact hg, r⟩
theorem Que.mono (h : Que w B E v l) {B' : Nat} (hB : B' ≤ B) : Que w B' E v l := by
  rcases h with h | ⟨g, off, cap, cur, rfl, h1, r⟩
  · exact .inl h
  · exact .inr ⟨g, off, cap, cur, rfl, Nat.le_trans hB h1, r⟩
theorem Que.of_own {n : Nat} (h : w.ownsRow B E 1 v n l) : Que w B E v l := by
  rcases h with ⟨hl, ⟨rfl, rfl⟩ | ⟨g, cap, cur, rfl, hb, hg, hn, hm, hs, ht⟩⟩
  · exact .inl ⟨rfl, List.eq_nil_of_length_eq_zero (by simpa using hl)⟩
  · have hl' : l.length = n := by simpa using hl
    exact .inr ⟨g, 0, cap, cur, by rw [hl'], hb, hg, by omega, hm, by omega, by rw [hl']; simpa using ht⟩
/-- an element -/
theorem Que.cell {a : Option Addr} {c : Nat} (h : Que w B E (.slice a l.length c) l) : (l = [] ∧ a = none ∧ c = 0) ∨ ∃ g off, a = some ⟨g, off, none⟩ ∧ l.length ≤ c ∧ c ≤ maxLen ∧ ∀ j (hj : j < l.length), w.cell? ⟨g, off + j, none⟩ = some l[j] := by
  rcases h with ⟨h1, h2⟩ | ⟨g, off, cap, cur, h1, h2, h3, h4, h5, h6, h7⟩
  · subst h2; cases h1; exact .inl ⟨rfl, rfl, rfl⟩
  · cases h1
    refine .inr ⟨g, off, rfl, h4, h5, fun j hj => ?_⟩
    have e : ((cur.toList.drop off).take l.length)[j]? = l[j]? := by rw [h7]
    rw [List.getElem?_take, if_pos hj, List.getElem?_drop, List.getElem?_eq_getElem hj, Array.getElem?_toList] at e
    rw [cell_of_row w g (off + j) cur E (0, 0) h3]
    exact e
/-- the front is cut off -/
theorem Que.tail {a : Option Addr} {n c : Nat} {x : Value} (h : Que w B E (.slice a n c) (x :: l)) : Que w B E (.slice (if c = 1 then a else a.map (·.add 1)) (n - 1) (c - 1)) l := by
  rcases h with ⟨_, h2⟩ | ⟨g, off, cap, cur, h1, h2, h3, h4, h5, h6, h7⟩
  · cases h2
  · cases h1
    simp only [List.length_cons] at h4 h7 ⊢
    have hd : (cur.toList.drop (off + 1)).take l.length = l := by
      have e := congrArg (List.drop 1) h7
      rw [List.drop_take, List.drop_drop] at e
      simpa using e
    by_cases hc : c = 1
    · rw [if_pos hc]
      have hl : l = [] := List.eq_nil_of_length_eq_zero (by omega)
      subst hl
      exact .inr ⟨g, off, c - 1, cur, rfl, h2, h3, by simp, by omega, by omega, by simp⟩
    · rw [if_neg hc]
      refine .inr ⟨g, off + 1, c - 1, cur, ?_, h2, h3, by omega, by omega, by omega, hd⟩
      simp [Addr.add]
end
theorem ownBlock_le {w : World} {B : Nat} {E : TypeId} {v : Value} {l : List Value} (h : Que w B E v l) : ∀ k, v.ownBlock = some k → k < w.heap.size := fun _ hk => (h.lt hk).2
/-- append of a row of the call's own -/
theorem run_append_que {P : Program} (w : World) {B B' : Nat} (t ty e : TypeId) (i : TypeInfo) (z : Value) (bytes : Nat) (ht : P.underlying t = some (.slice e)) (hi : P.info? e = some i) (hz : i.zero = some z)
    (hsize : i.size = 1) (hby : i.bytes = bytes) (hzs : z.cells.size = 1)
    {v x : Value} {l news : List Value} (hq : Que w B e v l) (hx : w.ownsRow B' e 1 x news.length news) (h1 : ∀ u ∈ news, u.oneCell' = true)
    (h63 : l.length + news.length ≤ maxLen) (hbytes : (l.length + news.length) * bytes ≤ 140737488355328) (hB : B ≤ w.heap.size) :
    ∃ v' w', (Builtin.append_ #[t, t] ty #[v, x]).run P w = .ok v' w' ∧ Que w' B e v' (l ++ news) ∧ w.grownBy w' v.ownBlock ∧ Next w v v' := by
  subst hby
  have hsmall : l.length + news.length ≤ 9223372036854775807 := by simp only [maxLen] at h63; omega
  have grown : ∀ old, old < l.length + news.length → ∀ row : Option Nat,
      Que (w.drew.alloc (.cells (l.toArray ++ news.toArray ++ Builtin.zeroCells z.cells (grownCap w (l.length + news.length) old e - (l.length + news.length))) e)) B e
        (.slice (some ⟨w.heap.size, 0, none⟩) (l.length + news.length) (grownCap w (l.length + news.length) old e)) (l ++ news) ∧
      w.grownBy (w.drew.alloc (.cells (l.toArray ++ news.toArray ++ Builtin.zeroCells z.cells (grownCap w (l.length + news.length) old e - (l.length + news.length))) e)) row := by
    intro old ho row
    have hge := grownCap_ge w (l.length + news.length) old e
    have hcm : grownCap w (l.length + news.length) old e ≤ maxLen := grownCap_le_maxLen w _ old e h63
    refine ⟨.inr ⟨w.heap.size, 0, _, _, by rw [List.length_append], hB, heap_alloc_new w.drew _, by rw [List.length_append]; exact hge, hcm, ?_, ?_⟩, ⟨rfl, rfl, rfl, by simp, fun k hk _ => heap_alloc_old w.drew _ hk⟩⟩
    · simp only [Array.size_append, List.size_toArray, size_zeroCells, hzs]; omega
    · simp only [Array.toList_append, List.drop_zero]
      exact List.take_left
  rcases hx.2 with ⟨rfl, h0⟩ | ⟨g', cap', cur', rfl, hb', hg', hc', hm', hs', ht'⟩
  · -- nothing to append
    have hnil : news = [] := List.eq_nil_of_length_eq_zero h0
    subst hnil
    refine ⟨v, w, ?_, by simpa using hq, ⟨rfl, rfl, rfl, Nat.le_refl _, fun _ _ _ => rfl⟩, Next.refl w v⟩
    rcases hq with ⟨rfl, rfl⟩ | ⟨g, off, cap, cur, rfl, hb, hg, hc, hm, hs, ht2⟩
    · simp [Builtin.append_, run_underlying ht, sizeOf, typeInfo, hi, Builtin.lenOf, Builtin.firstCells]
    · simp [Builtin.append_, run_underlying ht, sizeOf, typeInfo, hi, Builtin.lenOf, Builtin.firstCells, storeCells, hc]
  · have hnews : ∀ j u, news[j]? = some u → w.cell? ((⟨g', 0, none⟩ : Addr).add j) = some u := hx.cells (g := g') rfl
    rcases hq with ⟨rfl, rfl⟩ | ⟨g, off, cap, cur, rfl, hb, hg, hc, hm, hs, ht2⟩
    · by_cases hm0 : news.length = 0
      · have hnil : news = [] := List.eq_nil_of_length_eq_zero hm0
        subst hnil
        refine ⟨.slice none 0 0, w, ?_, .inl ⟨rfl, rfl⟩, ⟨rfl, rfl, rfl, Nat.le_refl _, fun _ _ _ => rfl⟩, Next.refl w _⟩
        simp [Builtin.append_, run_underlying ht, sizeOf, typeInfo, hi, Builtin.lenOf, Builtin.firstCells, loadCells, loadCellsFrom]
      · have hr := run_append_nil (P := P) w t ty e i z ht hi hz ⟨g', 0, none⟩ news.length cap' news (by rw [hsize]; omega) hnews (by omega) (by omega) (by simp only [List.length_nil, Nat.zero_add] at hbytes; omega)
        have hgr := grown 0 (by simp; omega) (Value.ownBlock (.slice none 0 0))
        simp only [List.length_nil, Nat.zero_add, List.nil_append, Array.empty_append] at hgr ⊢
        exact ⟨_, _, hr, hgr.1, hgr.2, Next.of_at (.inr rfl)⟩
    · by_cases hroom : l.length + news.length ≤ cap
      · have hst := run_storeCells_at P g (off + l.length) e news 0 cur w hg (by omega) h1
        simp only [Nat.add_zero] at hst
        have hf := run_firstCells_some (P := P) w 1 news.length ⟨g', 0, none⟩ news.length cap' news (by omega) hnews
        rw [List.append_assoc] at hst
        refine ⟨.slice (some ⟨g, off, none⟩) (l.length + news.length) cap, w.setRow g (cur.toList.take (off + l.length) ++ news ++ cur.toList.drop (off + l.length + news.length)).toArray, ?_, .inr ⟨g, off, cap, _, by rw [List.length_append], hb, setRow_heap w g cur _ e _ hg, by rw [List.length_append]; exact hroom, hm, ?_, ?_⟩, ⟨rfl, rfl, rfl, by simp, fun k _ hk => setRow_other w g k _ (fun e => hk (by simp [Value.ownBlock, e]))⟩, Next.of_at (.inl rfl)⟩
        · have hadd : (⟨g, off, none⟩ : Addr).add l.length = ⟨g, off + l.length, none⟩ := by unfold Addr.add; split <;> simp_all
          simp [Builtin.append_, run_underlying ht, sizeOf, typeInfo, hi, Builtin.lenOf, hroom, hsize, hf, hadd, hst]
        · simp only [List.size_toArray, List.length_append, List.length_take, List.length_drop, Array.length_toList]
          omega
        · have e1 : (cur.toList.take (off + l.length)).drop off = l := by rw [List.drop_take]; rw [Nat.add_sub_cancel_left]; exact ht2
          have hlen : off ≤ (cur.toList.take (off + l.length)).length := by simp; omega
          rw [List.append_assoc, List.drop_append_of_le_length hlen, e1, ← List.append_assoc]
          exact List.take_left
      · have holds : ∀ j u, l[j]? = some u → w.cell? ((⟨g, off, none⟩ : Addr).add j) = some u := by
          intro j u hj
          obtain ⟨hjl, rfl⟩ := List.getElem?_eq_some_iff.1 hj
          have hadd : (⟨g, off, none⟩ : Addr).add j = ⟨g, off + j, none⟩ := by unfold Addr.add; split <;> simp_all
          have hq' : Que w B e (.slice (some ⟨g, off, none⟩) l.length cap) l := .inr ⟨g, off, cap, cur, rfl, hb, hg, hc, hm, hs, ht2⟩
          rcases hq'.cell with ⟨hl, _⟩ | ⟨g2, off2, h3, _, _, h4⟩
          · subst hl; simp at hjl
          · cases h3; rw [hadd]; exact h4 j hjl
        have hr := run_append_grow (P := P) w t ty e i z ht hi hz ⟨g, off, none⟩ l.length cap l (by rw [hsize]; omega) holds ⟨g', 0, none⟩ news.length cap' news (by rw [hsize]; omega) hnews (by omega) (by omega) (growslice_fits (by omega) hbytes)
        have hgr := grown cap (by omega) (Value.ownBlock (.slice (some ⟨g, off, none⟩) l.length cap))
        exact ⟨_, _, hr, hgr.1, hgr.2, Next.of_at (.inr rfl)⟩
/-- the append, at one operation of a region that draws its order -/
theorem step_appQ {P : Program} {w : World} {ops : Array Oper} {o : Oper} {a : Act} {K : Act → World → Prop} {Q : Exit → Act → World → Prop} {F : Prop} (hgd : o.guard = none) (s x : Operand) (t : TypeId)
    (ho : o.op = .call { callee := .builtin .append, args := #[s, x], argTypes := #[t, t] })
    {B B' : Nat} (e : TypeId) (i : TypeInfo) (z : Value) (bytes : Nat) (ht : P.underlying t = some (.slice e)) (hi : P.info? e = some i) (hz : i.zero = some z)
    (hsize : i.size = 1) (hby : i.bytes = bytes) (hzs : z.cells.size = 1)
    {v u : Value} {l news : List Value} (hs : a.eval s = v) (hq : Que w B e v l) (hu : a.eval x = u) (hx : w.ownsRow B' e 1 u news.length news) (h1 : ∀ u ∈ news, u.oneCell' = true)
    (h63 : l.length + news.length ≤ maxLen) (hbytes : (l.length + news.length) * bytes ≤ 140737488355328) (hB : B ≤ w.heap.size)
    (h : ∀ v' w', Que w' B e v' (l ++ news) → w.grownBy w' v.ownBlock → Next w v v' → K (a.put o.dst v') w') :
    if Region.wanted o (yielded ops a.tmps) = true then Oper.wp P o a w K Q else F := by
  have hw : Region.wanted o (yielded ops a.tmps) = true := by simp [Region.wanted, hgd]
  rw [if_pos hw]
  obtain ⟨v', w', hr, h2, h3, h4⟩ := run_append_que (P := P) w t o.type e i z bytes ht hi hz hsize hby hzs hq hx h1 h63 hbytes hB
  unfold Oper.wp execOp
  simp only [ho, resolve, invoke, builtin, Sem.run_bind, Sem.run_pure, Result.andThen_ok, List.map_toArray, List.map_cons, List.map_nil, hs, hu, hr]
  exact h v' w' h2 h3 h4
end Go.Proofs.Ytjcigaonadkhkaa
