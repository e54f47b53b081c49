/-
  A map of numbers to values, as a list of entries. No conditions.
-/
import Derived.Test.YtglmlhbchfgliaaLib
import Derived.Test.YtglmlhbchfgliaaFrame
import Derived.Maps.OwnSet
import Derived.Maps.Range
namespace Go.Proofs.Ytglmlhbchfgliaa
open Go.RowKit Go.Maps Go.WideShapes
/-- how an element reads: as itself -/
def asIs (v : Value) : Option (DataW Value × List MemPlace) := some (.held v, [])
/-- a number as a key -/
def nk (n : Nat) : Lit := .int .i64 (n : Int)
/-- an entry as the datum has it -/
def ent (p : Nat × Value) : Lit × DataW Value := (nk p.1, .held p.2)
theorem nk_inj {a b : Nat} (h : nk a = nk b) : a = b := by
  unfold nk at h
  injection h with _ h
  omega
theorem nk_key (n : Nat) : WideAt.IsKeyLit (nk n) := trivial
theorem nk_same (a b : Nat) : (nk a).sameKey (nk b) = decide (a = b) := by
  by_cases h : a = b
  · subst h; simp [WideAt.sameKey_self (nk_key a)]
  · rw [sameKey_ne (fun e => h (nk_inj e))]; simp [h]
/-- the datum holds just these entries -/
structure DMap (D : DataW Value) (l : List (Nat × Value)) : Prop where
  ex : ∃ es, D = .map es ∧ es.Perm (l.map ent)
  nd : (l.map (·.1)).Nodup
theorem insert_perm {H : Type} (x : Lit × DataW H) : ∀ l : List (Lit × DataW H), (DataW.insert x l).Perm (x :: l)
  | [] => by simp [DataW.insert]
  | y :: r => by
    unfold DataW.insert
    split
    · exact List.Perm.refl _
    · exact ((insert_perm x r).cons y).trans (List.Perm.swap x y r)
section
variable {D : DataW Value} {l : List (Nat × Value)}
theorem DMap.nil : DMap (.map []) [] := ⟨⟨[], rfl, List.Perm.refl _⟩, List.nodup_nil⟩
theorem DMap.size (h : DMap D l) : Maps.size D = l.length := by
  obtain ⟨es, rfl, hp⟩ := h.ex
  rw [size_eq, hp.length_eq, List.length_map]
theorem any_ent (l : List (Nat × Value)) (n : Nat) : (l.map ent).any (fun p => p.1.sameKey (nk n)) = l.any (fun p => decide (p.1 = n)) := by
  rw [List.any_map]
  congr 1
  funext p
  simp [ent, nk_same]
theorem perm_any {α : Type} {f : α → Bool} {l m : List α} (h : l.Perm m) : l.any f = m.any f := by
  rw [Bool.eq_iff_iff, List.any_eq_true, List.any_eq_true]
  exact ⟨fun ⟨x, hx, hf⟩ => ⟨x, h.mem_iff.1 hx, hf⟩, fun ⟨x, hx, hf⟩ => ⟨x, h.mem_iff.2 hx, hf⟩⟩
theorem DMap.has (h : DMap D l) (n : Nat) : Maps.has D (nk n) = l.any (fun p => decide (p.1 = n)) := by
  obtain ⟨es, rfl, hp⟩ := h.ex
  rw [has_eq, perm_any hp, any_ent]
/-- two entries of one key are one -/
theorem nodup_val {l : List (Nat × Value)} (h : (l.map (·.1)).Nodup) {n : Nat} {v u : Value} (h1 : (n, v) ∈ l) (h2 : (n, u) ∈ l) : v = u := by
  induction l with
  | nil => cases h1
  | cons p l ih =>
    rw [List.map_cons, List.nodup_cons] at h
    rcases List.mem_cons.1 h1 with e1 | e1 <;> rcases List.mem_cons.1 h2 with e2 | e2
    · rw [← e1] at e2; injection e2 with _ e2; exact e2.symm
    · exact absurd (List.mem_map.2 ⟨_, e2, rfl⟩) (by rw [← e1] at h; exact h.1)
    · exact absurd (List.mem_map.2 ⟨_, e1, rfl⟩) (by rw [← e2] at h; exact h.1)
    · exact ih h.2 e1 e2
theorem DMap.at_ (h : DMap D l) {n : Nat} {v : Value} (hm : (n, v) ∈ l) (z : DataW Value) : D.atKey (nk n) z = .held v := by
  obtain ⟨es, rfl, hp⟩ := h.ex
  unfold DataW.atKey
  have h1 : ent (n, v) ∈ es := hp.mem_iff.2 (List.mem_map.2 ⟨_, hm, rfl⟩)
  simp only
  cases hf : es.find? (fun p => p.1.sameKey (nk n)) with
  | none => exact absurd (List.find?_eq_none.1 hf _ h1) (by simp [ent, nk_same])
  | some p =>
    have h2 := List.find?_some hf
    obtain ⟨⟨m, u⟩, hu, rfl⟩ := List.mem_map.1 (hp.mem_iff.1 (List.mem_of_find?_eq_some hf))
    simp only [ent, nk_same, decide_eq_true_eq] at h2
    subst h2
    show DataW.held u = .held v
    rw [nodup_val h.nd hm hu]
theorem DMap.put (h : DMap D l) {n : Nat} (hn : l.any (fun p => decide (p.1 = n)) = false) (v : Value) : DMap (D.put (nk n) (.held v)) (l ++ [(n, v)]) := by
  obtain ⟨es, rfl, hp⟩ := h.ex
  have hno : ∀ p ∈ es, p.1.sameKey (nk n) = false := by
    have := perm_any (f := fun p => p.1.sameKey (nk n)) hp
    rw [any_ent, hn] at this
    exact fun p hp => by simpa using List.any_eq_false.1 this p hp
  refine ⟨⟨_, rfl, ?_⟩, ?_⟩
  · have e : es.filter (fun p => !p.1.sameKey (nk n)) = es := List.filter_eq_self.2 (fun p hp => by simp [hno p hp])
    show (DataW.insert (nk n, .held v) (es.filter fun p => !p.1.sameKey (nk n))).Perm _
    rw [e, List.map_append]
    exact ((insert_perm _ es).trans (hp.cons _)).trans (List.perm_append_singleton _ _).symm
  · rw [List.map_append, List.nodup_append]
    refine ⟨h.nd, by simp, fun a ha b hb => ?_⟩
    simp only [List.map_cons, List.map_nil, List.mem_singleton] at hb
    subst hb
    rintro rfl
    obtain ⟨p, hp1, rfl⟩ := List.mem_map.1 ha
    have := List.any_eq_false.1 hn p hp1
    simp at this
theorem nodup_filter {l : List (Nat × Value)} (h : (l.map (·.1)).Nodup) (f : Nat × Value → Bool) : ((l.filter f).map (·.1)).Nodup := by
  have : ((l.filter f).map (·.1)).Sublist (l.map (·.1)) := (List.filter_sublist).map _
  exact this.nodup h
theorem DMap.del (h : DMap D l) (n : Nat) : DMap (D.del (nk n)) (l.filter fun p => !decide (p.1 = n)) := by
  obtain ⟨es, rfl, hp⟩ := h.ex
  refine ⟨⟨_, rfl, ?_⟩, nodup_filter h.nd _⟩
  show (es.filter fun p => !p.1.sameKey (nk n)).Perm _
  have := hp.filter (fun p => !p.1.sameKey (nk n))
  refine this.trans ?_
  rw [List.filter_map]
  have e : ((fun p : Lit × DataW Value => !p.1.sameKey (nk n)) ∘ ent) = fun p => !decide (p.1 = n) := by
    funext p; simp [ent, nk_same]
  rw [e]
end
end Go.Proofs.Ytglmlhbchfgliaa
