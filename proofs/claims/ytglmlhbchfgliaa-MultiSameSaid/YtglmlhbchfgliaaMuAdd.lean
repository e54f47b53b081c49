/-
  Add of the program: plainly, and the walk of its refusals. Conditions: a fragment has no more than 100000 bytes.
-/
import Derived.Test.YtglmlhbchfgliaaMuPlain
namespace Go.Proofs.Ytglmlhbchfgliaa
open Go.RowKit Go.Maps
/-- is a number old on a link -/
def oldP (s : JS) (link n : Nat) : Bool :=
  decide (aheadI (rgN s.short) s.next n < 0) || (getP s.held n).isSome || (decide (0 ≤ s.last.getD link 0) && decide (aheadI (rgN s.short) s.next n ≤ aheadI (rgN s.short) s.next (s.last.getD link 0).toNat))
/-- a fragment is held -/
def putP (s : JS) (link n : Nat) (p : Pc) : JS := { s with held := s.held ++ [(n, p)], last := s.last.set link (n : Int) }
theorem own_setElem {w : World} {B E n c g k : Nat} {xs : List Value} (h : w.ownsRow B E 1 (.slice (some ⟨g, 0, none⟩) n c) n xs) (_ : k < n) (v : Value) : (w.setCell ⟨g, k, none⟩ v).ownsRow B E 1 (.slice (some ⟨g, 0, none⟩) n c) n (xs.set k v) := by
  obtain ⟨h1, h2⟩ := h
  refine ⟨by simpa using h1, ?_⟩
  rcases h2 with ⟨e, _⟩ | ⟨g', cap, cur, e, hg, hh, a1, a2, a3, a4⟩
  · cases e
  · cases e
    refine Or.inr ⟨g, c, cur.setIfInBounds k v, rfl, hg, heap_setCell_same _ _ _ _ _ _ hh, a1, a2, by simpa using a3, ?_⟩
    rw [Array.toList_setIfInBounds, ← a4]
    rw [List.take_set]
section
variable {w w' : World} {B b bm : Nat} {vl : Value} {s : JS}
theorem Jo.put (h : Jo w B b bm vl s) {D : DataW Value} {hv : List (Nat × Value)} {n : Nat} {p : Pc} {v : Value} (m2 : DMap D hv) (m3 : Parts w B hv s.held) (ho : w'.ownsMap Try.prog 3 asIs bm (s.held.length + 1) (D.put (nk n) (.held (pcV p v)))) (hg : w.grownBy w' (some bm))
    (hx : w.ownsRow B 5 1 v p.b.length (p.b.map bv)) (hnew : getP s.held n = none) (hn : n < rgN s.short) (hfew : s.held.length + 1 ≤ 100) : Jo w' B b bm vl { s with held := s.held ++ [(n, p)] } := by
  obtain ⟨D0, hv0, m1, _, _⟩ := h.map
  have hb : ButOf (fun k => k = bm) w w' := ButOf.of_grown hg (fun k e => by cases e; rfl)
  have hno : ∀ {E size m B' : Nat} {v : Value} {xs : List Value}, w.ownsRow B' E size v m xs → ∀ k, v.ownBlock = some k → ¬ k = bm := fun hr k hk e => ownsMap_own m1 hr (e ▸ hk)
  have hkey : hv.any (fun p => decide (p.1 = n)) = false := by
    rw [List.any_eq_false]
    intro x hx e
    exact (getP_none.1 hnew) (m3.keys ▸ List.mem_map.2 ⟨x, hx, by simpa using e⟩)
  refine ⟨h.blk.but hb (fun e => ownsMap_blk m1 h.blk e), own_but h.row hb (hno h.row), ⟨_, _, by simpa using ho, m2.put hkey _, (m3.but hb (fun hp => hno hp)).snoc (own_but hx hb (hno hx))⟩, h.base, h.bmap, h.next, by simpa using hfew, fun q hq => ?_, h.lst⟩
  rcases List.mem_append.1 hq with e | e
  · exact h.num q e
  · rw [List.mem_singleton] at e; subst e; exact hn
theorem Jo.setLast {g n c k m : Nat} (h : Jo w B b bm vl s) (hv : vl = .slice (some ⟨g, 0, none⟩) n c) (hk : k < s.last.length) (hm : m < rgN s.short) : Jo (w.setCell ⟨g, k, none⟩ (.int .i64 (m : Nat))) B b bm vl { s with last := s.last.set k (m : Int) } := by
  subst hv
  obtain ⟨a', c', e⟩ := own_slice h.row
  cases e
  have hb : ButOf (fun k => k = g) w (w.setCell ⟨g, k, none⟩ (.int .i64 (m : Nat))) := (ButOf.refl _ w).set _ (Or.inl rfl)
  obtain ⟨D, hv, m1, m2, m3⟩ := h.map
  have hlt := h.row
  have hrow : (w.setCell ⟨g, k, none⟩ (.int .i64 (m : Nat))).ownsRow B 3 1 (.slice (some ⟨g, 0, none⟩) s.last.length c) (s.last.set k (m : Int)).length ((s.last.set k (m : Int)).map zv) := by
    have := own_setElem h.row hk (zv (m : Int))
    refine own_congr this (by simp) ?_
    rw [List.map_set]
  refine ⟨h.blk.but hb (fun e => h.ne_own h.row (by decide) g rfl e.symm), hrow, ⟨D, hv, ownsMap_but m1 hb (fun e => ownsMap_own m1 h.row (by rw [e]; rfl)), m2, m3.but hb (fun hp k' hk' e => own_own_ne hp h.row (by decide) hk' (by rw [e]; rfl))⟩, h.base, h.bmap, h.next, h.few, h.num, fun x hx => ?_⟩
  rcases List.mem_or_eq_of_mem_set hx with e | e
  · exact h.lst x e
  · subst e; exact ⟨by omega, by show (m : Int) < (rgN s.short : Int); omega⟩
end
set_option maxRecDepth 100000 in
theorem add_arg {w : World} {B b bm : Nat} {vl : Value} {s : JS} (link : Int) (v : Value) (h : Jo w B b bm vl s) (hl : link < 0 ∨ (s.last.length : Int) ≤ link) (_ : s.last.length ≤ 16) :
    Calls Try.prog 15 #[.pointer (some ⟨b, 0, none⟩), .int .i64 link, v] w fun e w' => e = .returned (.tuple #[.slice none 0 0, .int .i64 1]) ∧ Below w.heap.size w w' := by
  have c0 := h.c0
  have c5 := h.c5
  obtain ⟨al, cl, rfl⟩ := own_slice h.row
  by_cases hneg : link < 0
  · go_enter Try.func15, Try.ntmps15
    go_wp2_with fail
    go_ret2
    exact ⟨rfl, Below.refl _ _⟩
  · have hl : (s.last.length : Int) ≤ link := by omega
    have hneg : 0 ≤ link := by omega
    go_enter Try.func15, Try.ntmps15
    go_wp2_with fail
    go_ret2
    exact ⟨rfl, Below.refl _ _⟩
set_option maxRecDepth 100000 in
theorem add_head {w : World} {B b bm : Nat} {vl : Value} {s : JS} {a : Option Addr} {n c : Nat} {l : List UInt8} (link : Nat) (h : Jo w B b bm vl s) (hB : Bts w a n c l) (hl : link < s.last.length) (he : (headP l s.short).err ≠ 0) :
    Calls Try.prog 15 #[.pointer (some ⟨b, 0, none⟩), .int .i64 (link : Nat), .slice a n c] w fun e w' => e = .returned (.tuple #[.slice none 0 0, .int .i64 ((headP l s.short).err : Nat)]) ∧ Below w.heap.size w w' := by
  have c0 := h.c0
  have c2 := h.c2
  have c5 := h.c5
  obtain ⟨al, cl, rfl⟩ := own_slice h.row
  have hlI : (link : Int) < (s.last.length : Int) := by omega
  have hl0 : (0 : Int) ≤ (link : Int) := by omega
  have hh := fun W hW => mhead_any (w := W) (a := a) (n := n) (c := c) (l := l) s.short hW
  generalize headP l s.short = d at *
  have heI : (((d.err : Nat) : Int) != 0) = true := by rw [bne_cast]; simpa using he
  go_enter Try.func15, Try.ntmps15
  go_wp2_with (go_at_call 18; refine (hh _ hB).mono ?_; rintro e w1 ⟨v, rfl, hv, hb⟩; obtain ⟨av, cv, rfl⟩ := own_slice hv; simp only [Hd.res])
  go_ret2
  exact ⟨rfl, hb⟩
end Go.Proofs.Ytglmlhbchfgliaa
