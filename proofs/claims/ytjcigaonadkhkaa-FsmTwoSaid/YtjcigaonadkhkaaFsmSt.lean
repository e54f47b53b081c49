/-
  Two machines, what each is still to hear: the plain law, and where they lie in memory. No conditions.
-/
import Derived.Test.YtjcigaonadkhkaaFsmTold
namespace Go.Proofs.Ytjcigaonadkhkaa
open Go.RowKit
/-- what a machine at state s is still to hear of one at state t -/
def pend (s t : Nat) : List Nat := if s = 6 then 6 :: (if t = 6 then [] else [8]) else if s = 8 then (if t = 6 then [] else [8]) else []
def hears (s : Nat) : Nat := if s = 6 then 0 else if s = 8 then 1 else 2
/-- two machines, and what each is to hear -/
structure Duo (m0 m1 : M) (l0 l1 : List Nat) : Prop where
  o0 : Ok m0
  o1 : Ok m1
  s0 : m0.state = 6 ∨ m0.state = 8 ∨ m0.state = 9
  s1 : m1.state = 6 ∨ m1.state = 8 ∨ m1.state = 9
  n0 : m0.state = 9 → m1.state ≠ 6
  n1 : m1.state = 9 → m0.state ≠ 6
  e0 : l0 = pend m0.state m1.state
  e1 : l1 = pend m1.state m0.state
theorem Duo.flip {m0 m1 : M} {l0 l1 : List Nat} (h : Duo m0 m1 l0 l1) : Duo m1 m0 l1 l0 := ⟨h.o1, h.o0, h.s1, h.s0, h.n1, h.n0, h.e1, h.e0⟩
theorem Duo.len {m0 m1 : M} {l0 l1 : List Nat} (h : Duo m0 m1 l0 l1) : l0.length ≤ 2 := by
  rw [h.e0]; unfold pend
  rcases h.s0 with e | e | e <;> rcases h.s1 with f | f | f <;> rw [e, f] <;> decide
/-- it hears the next one -/
theorem Duo.step {m0 m1 : M} {x : Nat} {l0 l1 : List Nat} (h : Duo m0 m1 (x :: l0) l1) :
    Duo (doM m0 x) m1 l0 (l1 ++ toldN (doL m0 x)) ∧ hears (doM m0 x).state = hears m0.state + 1 ∧ (toldN (doL m0 x)).length ≤ 1 ∧ (doL m0 x).length ≤ 2 := by
  have e0 := h.e0
  have e1 := h.e1
  have ok := h.o0.do x
  have hL : ∀ e : Nat, e = 6 ∨ e = 8 → doL m0 e = actsN m0.state e := by
    intro e he
    unfold doL
    rw [if_neg (by unfold outer; omega), actsI_in h.o0.s (by omega)]
  have hS : ∀ e : Nat, e = 6 ∨ e = 8 → (doM m0 e).state = nextN m0.state e := fun e he => do_state h.o0 (by omega) (by omega) (by omega)
  rcases h.s0 with s0 | s0 | s0
  · rw [s0] at e0 e1
    have hx : x = 6 := by rw [pend, if_pos rfl] at e0; injection e0
    subst hx
    have hs := hS 6 (.inl rfl)
    have hl := hL 6 (.inl rfl)
    rw [s0] at hs hl
    have hs : (doM m0 (6 : Nat)).state = 8 := hs
    have hl : doL m0 (6 : Nat) = [7] := hl
    rw [hl]
    refine ⟨⟨ok, h.o1, .inr (.inl hs), h.s1, by omega, fun h9 => by have := h.n1 h9; omega, ?_, ?_⟩, by rw [hs, s0]; rfl, by decide, by decide⟩
    · rw [hs]
      rw [pend, if_pos rfl] at e0
      injection e0 with _ e0
    · rw [hs, e1]
      rcases h.s1 with s1 | s1 | s1
      · rw [s1]; rfl
      · rw [s1]; rfl
      · exact absurd s0 (h.n1 s1)
  · rw [s0] at e0 e1
    have hx : x = 8 ∧ m1.state ≠ 6 ∧ l0 = [] := by
      rw [pend, if_neg (by decide), if_pos rfl] at e0
      by_cases hn : m1.state = 6
      · rw [if_pos hn] at e0; cases e0
      · rw [if_neg hn] at e0; injection e0 with h1 h2; exact ⟨h1, hn, h2⟩
    obtain ⟨rfl, hn, rfl⟩ := hx
    have hs := hS 8 (.inr rfl)
    have hl := hL 8 (.inr rfl)
    rw [s0] at hs hl
    have hs : (doM m0 (8 : Nat)).state = 9 := hs
    have hl : doL m0 (8 : Nat) = [4, 0] := hl
    rw [hl]
    refine ⟨⟨ok, h.o1, .inr (.inr hs), h.s1, fun _ => hn, fun _ => by omega, ?_, ?_⟩, by rw [hs, s0]; rfl, by decide, by decide⟩
    · rw [hs]; rfl
    · rw [hs, e1]
      rcases h.s1 with s1 | s1 | s1
      · exact absurd s1 hn
      · rw [s1]; rfl
      · rw [s1]; rfl
  · rw [s0] at e0; cases e0
/-- nobody is to hear anything: both are opened -/
theorem Duo.done {m0 m1 : M} (h : Duo m0 m1 [] []) : m0.state = 9 ∧ m1.state = 9 := by
  have e0 := h.e0
  have e1 := h.e1
  rcases h.s0 with s0 | s0 | s0
  · rw [s0] at e0; cases e0
  · rcases h.s1 with s1 | s1 | s1
    · rw [s1] at e1; cases e1
    · rw [s0, s1] at e0; cases e0
    · rw [s0, s1] at e0; cases e0
  · rcases h.s1 with s1 | s1 | s1
    · rw [s1] at e1; cases e1
    · rw [s0, s1] at e1; cases e1
    · exact ⟨s0, s1⟩
theorem hears_le (s : Nat) : hears s ≤ 2 := by unfold hears; split <;> (try split) <;> omega
/-- where all lies -/
structure St (w0 w : World) (bA bB bm bq : Nat) (v0 v1 : Value) (m0 m1 : M) (l0 l1 : List Nat) : Prop where
  a : Mac w bA m0
  b : Mac w bB m1
  ne : bA ≠ bB
  ms : Blk w bm #[.pointer (some ⟨bA, 0, none⟩), .pointer (some ⟨bB, 0, none⟩)] 29
  qs : Blk w bq #[v0, v1] 23
  q0 : Que w w0.heap.size 3 v0 (l0.map iv)
  q1 : Que w w0.heap.size 3 v1 (l1.map iv)
  apart : ∀ k, v0.ownBlock = some k → v1.ownBlock = some k → False
  hb : Below w0.heap.size w0 w
  ga : w0.heap.size ≤ bA
  gb : w0.heap.size ≤ bB
  gm : w0.heap.size ≤ bm
  gq : w0.heap.size ≤ bq
theorem que_blk_ne {w : World} {B E : Nat} {v : Value} {xs : List Value} {b : Nat} {cs : Array Value} {T : TypeId} (h : Que w B E v xs) (hb : Blk w b cs T) (hT : E ≠ T) : v.ownBlock ≠ some b := by
  rcases h with ⟨rfl, _⟩ | ⟨g, off, cap, cur, rfl, _, hh, _⟩
  · simp [Value.ownBlock]
  · intro he
    have : g = b := by simpa [Value.ownBlock] using he
    subst this
    unfold Blk at hb
    rw [hh] at hb
    injection hb with hb
    injection hb with _ ht
    exact hT ht
section
variable {w0 w w' : World} {bA bB bm bq : Nat} {v0 v1 : Value} {m0 m1 : M} {l0 l1 : List Nat}
theorem Que.below {B E : Nat} {v : Value} {l : List Value} (h : Que w B E v l) (hb : Below w.heap.size w w') : Que w' B E v l := h.but (K := fun _ => False) (.of_below hb) (fun _ _ => id)
theorem St.below (h : St w0 w bA bB bm bq v0 v1 m0 m1 l0 l1) (hb : Below w.heap.size w w') : St w0 w' bA bB bm bq v0 v1 m0 m1 l0 l1 :=
  ⟨h.a.below hb h.a.lt, h.b.below hb h.b.lt, h.ne, Blk.below h.ms hb h.ms.lt, Blk.below h.qs hb h.qs.lt, h.q0.below hb, h.q1.below hb, h.apart, h.hb.trans (hb.mono h.hb.size), h.ga, h.gb, h.gm, h.gq⟩
theorem St.do0 (h : St w0 w bA bB bm bq v0 v1 m0 m1 l0 l1) {m : M} (hg : w.grownBy w' (some bA)) (hM : Mac w' bA m) : St w0 w' bA bB bm bq v0 v1 m m1 l0 l1 := by
  have e1 : bm ≠ bA := blk_ne h.ms h.a (by decide)
  have e2 : bq ≠ bA := blk_ne h.qs h.a (by decide)
  refine ⟨hM, h.b.grown hg (fun e => h.ne e.symm), h.ne, Blk.grown h.ms hg (by simpa using e1), Blk.grown h.qs hg (by simpa using e2), ?_, ?_, h.apart, below_grow h.hb hg h.hb.size h.ga, h.ga, h.gb, h.gm, h.gq⟩
  · exact h.q0.but (K := fun k => k = bA) (.of_grown hg (fun k hk => by cases hk; rfl)) (fun k hk e => que_blk_ne h.q0 h.a (by decide) (by rw [hk, e]))
  · exact h.q1.but (K := fun k => k = bA) (.of_grown hg (fun k hk => by cases hk; rfl)) (fun k hk e => que_blk_ne h.q1 h.a (by decide) (by rw [hk, e]))
theorem St.flipM (h : St w0 w bA bB bm bq v0 v1 m0 m1 l0 l1) : Blk w bm #[.pointer (some ⟨bA, 0, none⟩), .pointer (some ⟨bB, 0, none⟩)] 29 := h.ms
theorem St.do1 (h : St w0 w bA bB bm bq v0 v1 m0 m1 l0 l1) {m : M} (hg : w.grownBy w' (some bB)) (hM : Mac w' bB m) : St w0 w' bA bB bm bq v0 v1 m0 m l0 l1 := by
  have e1 : bm ≠ bB := blk_ne h.ms h.b (by decide)
  have e2 : bq ≠ bB := blk_ne h.qs h.b (by decide)
  refine ⟨h.a.grown hg h.ne, hM, h.ne, Blk.grown h.ms hg (by simpa using e1), Blk.grown h.qs hg (by simpa using e2), ?_, ?_, h.apart, below_grow h.hb hg h.hb.size h.gb, h.ga, h.gb, h.gm, h.gq⟩
  · exact h.q0.but (K := fun k => k = bB) (.of_grown hg (fun k hk => by cases hk; rfl)) (fun k hk e => que_blk_ne h.q0 h.b (by decide) (by rw [hk, e]))
  · exact h.q1.but (K := fun k => k = bB) (.of_grown hg (fun k hk => by cases hk; rfl)) (fun k hk e => que_blk_ne h.q1 h.b (by decide) (by rw [hk, e]))
/-- a row of what is to be heard takes the place of the old one -/
theorem St.put1 (h : St w0 w bA bB bm bq v0 v1 m0 m1 l0 l1) {v : Value} {l : List Nat} (hq : Que w' w0.heap.size 3 v (l.map iv)) (hg : w.grownBy w' v1.ownBlock) (hn : Next w v1 v) :
    Blk w' bq #[v0, v1] 23 ∧ Blk w' bm #[.pointer (some ⟨bA, 0, none⟩), .pointer (some ⟨bB, 0, none⟩)] 29 ∧ St w0 (w'.setCell ⟨bq, 1, none⟩ v) bA bB bm bq v0 v m0 m1 l0 l := by
  have eA : some bA ≠ v1.ownBlock := (que_blk_ne h.q1 h.a (by decide)).symm
  have eB : some bB ≠ v1.ownBlock := (que_blk_ne h.q1 h.b (by decide)).symm
  have eM : some bm ≠ v1.ownBlock := (que_blk_ne h.q1 h.ms (by decide)).symm
  have eQ : some bq ≠ v1.ownBlock := (que_blk_ne h.q1 h.qs (by decide)).symm
  have a1 : Mac w' bA m0 := Blk.grown h.a hg eA
  have b1 : Mac w' bB m1 := Blk.grown h.b hg eB
  have ms1 := Blk.grown h.ms hg eM
  have qs1 := Blk.grown h.qs hg eQ
  have q01 : Que w' w0.heap.size 3 v0 (l0.map iv) := h.q0.but (K := fun k => some k = v1.ownBlock) (.of_grown hg (fun k hk => hk.symm)) (fun k hk e => h.apart k hk e.symm)
  have hb1 : Below w0.heap.size w0 w' := h.hb.grown hg h.hb.size (fun k hk => (h.q1.lt hk).1)
  have gs : w'.grownBy (w'.setCell ⟨bq, 1, none⟩ v) (some bq) := grown_set
  have k1 : bA ≠ bq := blk_ne a1 qs1 (by decide)
  have k2 : bB ≠ bq := blk_ne b1 qs1 (by decide)
  have k3 : bm ≠ bq := blk_ne ms1 qs1 (by decide)
  refine ⟨qs1, ms1, a1.grown gs k1, b1.grown gs k2, h.ne, Blk.grown ms1 gs (by simpa using k3), Blk.set qs1 1 v, ?_, ?_, fun k hk hv => ?_, below_grow hb1 gs hb1.size h.gq, h.ga, h.gb, h.gm, h.gq⟩
  · exact q01.but (K := fun k => k = bq) (.of_grown gs (fun k hk => by cases hk; rfl)) (fun k hk e => que_blk_ne q01 qs1 (by decide) (by rw [hk, e]))
  · exact hq.but (K := fun k => k = bq) (.of_grown gs (fun k hk => by cases hk; rfl)) (fun k hk e => que_blk_ne hq qs1 (by decide) (by rw [hk, e]))
  · rcases hn k hv with e | e
    · exact h.apart k hk e
    · have := (h.q0.lt hk).2; omega
theorem St.put0 (h : St w0 w bA bB bm bq v0 v1 m0 m1 l0 l1) {v : Value} {l : List Nat} (hq : Que w' w0.heap.size 3 v (l.map iv)) (hg : w.grownBy w' v0.ownBlock) (hn : Next w v0 v) :
    Blk w' bq #[v0, v1] 23 ∧ Blk w' bm #[.pointer (some ⟨bA, 0, none⟩), .pointer (some ⟨bB, 0, none⟩)] 29 ∧ St w0 (w'.setCell ⟨bq, 0, none⟩ v) bA bB bm bq v v1 m0 m1 l l1 := by
  have eA : some bA ≠ v0.ownBlock := (que_blk_ne h.q0 h.a (by decide)).symm
  have eB : some bB ≠ v0.ownBlock := (que_blk_ne h.q0 h.b (by decide)).symm
  have eM : some bm ≠ v0.ownBlock := (que_blk_ne h.q0 h.ms (by decide)).symm
  have eQ : some bq ≠ v0.ownBlock := (que_blk_ne h.q0 h.qs (by decide)).symm
  have a1 : Mac w' bA m0 := Blk.grown h.a hg eA
  have b1 : Mac w' bB m1 := Blk.grown h.b hg eB
  have ms1 := Blk.grown h.ms hg eM
  have qs1 := Blk.grown h.qs hg eQ
  have q11 : Que w' w0.heap.size 3 v1 (l1.map iv) := h.q1.but (K := fun k => some k = v0.ownBlock) (.of_grown hg (fun k hk => hk.symm)) (fun k hk e => h.apart k e.symm hk)
  have hb1 : Below w0.heap.size w0 w' := h.hb.grown hg h.hb.size (fun k hk => (h.q0.lt hk).1)
  have gs : w'.grownBy (w'.setCell ⟨bq, 0, none⟩ v) (some bq) := grown_set
  have k1 : bA ≠ bq := blk_ne a1 qs1 (by decide)
  have k2 : bB ≠ bq := blk_ne b1 qs1 (by decide)
  have k3 : bm ≠ bq := blk_ne ms1 qs1 (by decide)
  refine ⟨qs1, ms1, a1.grown gs k1, b1.grown gs k2, h.ne, Blk.grown ms1 gs (by simpa using k3), Blk.set qs1 0 v, ?_, ?_, fun k hk hv => ?_, below_grow hb1 gs hb1.size h.gq, h.ga, h.gb, h.gm, h.gq⟩
  · exact hq.but (K := fun k => k = bq) (.of_grown gs (fun k hk => by cases hk; rfl)) (fun k hk e => que_blk_ne hq qs1 (by decide) (by rw [hk, e]))
  · exact q11.but (K := fun k => k = bq) (.of_grown gs (fun k hk => by cases hk; rfl)) (fun k hk e => que_blk_ne q11 qs1 (by decide) (by rw [hk, e]))
  · rcases hn k hk with e | e
    · exact h.apart k e hv
    · have := (h.q1.lt hv).2; omega
end
end Go.Proofs.Ytjcigaonadkhkaa
