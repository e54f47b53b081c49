/-
  best, plainly: what the merges make. No conditions.
-/
import Derived.Test.YtdfoimgckahjpaaHuffCost
namespace Go.Proofs.Ytdfoimgckahjpaa
open Go.RowKit
/-- a node: its count and its symbols -/
abbrev Nd := Nat × List Nat
def insN (x : Nd) : List Nd → List Nd
  | [] => [x]
  | y :: r => if y.1 ≤ x.1 then y :: insN x r else x :: y :: r
def bump (O : List Nat) : List Nat → List Nat
  | [] => O
  | s :: t => bump (O.set s (O.getD s 0 + 1)) t
def bestO : Nat → List Nd → List Nat → List Nat
  | k + 1, a :: b :: r, O => bestO k (insN (a.1 + b.1, a.2 ++ b.2) r) (bump O (a.2 ++ b.2))
  | _, _, O => O
theorem perm_sum {L M : List Nat} (h : L.Perm M) : L.sum = M.sum := by
  induction h with
  | nil => rfl
  | cons x _ ih => rw [List.sum_cons, List.sum_cons, ih]
  | swap x y l => simp only [List.sum_cons]; omega
  | trans _ _ a b => exact a.trans b
theorem insN_fst (x : Nd) : ∀ r : List Nd, (insN x r).map Prod.fst = insW x.1 (r.map Prod.fst)
  | [] => rfl
  | y :: r => by
    unfold insN
    rw [List.map_cons, insW]
    split
    · rw [List.map_cons, insN_fst x r]
    · rfl
theorem insN_mem (x : Nd) : ∀ (r : List Nd) (z : Nd), z ∈ insN x r → z = x ∨ z ∈ r
  | [], z, h => .inl (by simpa [insN] using h)
  | y :: r, z, h => by
    unfold insN at h
    split at h
    · rcases List.mem_cons.1 h with e | e
      · exact .inr (by rw [e]; exact List.mem_cons_self ..)
      · rcases insN_mem x r z e with e2 | e2
        · exact .inl e2
        · exact .inr (List.mem_cons_of_mem _ e2)
    · rcases List.mem_cons.1 h with e | e
      · exact .inl e
      · exact .inr e
theorem insN_length (x : Nd) : ∀ r : List Nd, (insN x r).length = r.length + 1
  | [] => rfl
  | y :: r => by
    unfold insN
    split
    · rw [List.length_cons, insN_length x r, List.length_cons]
    · rfl
theorem insN_perm (x : Nd) : ∀ r : List Nd, (insN x r).Perm (x :: r)
  | [] => List.Perm.refl _
  | y :: r => by
    unfold insN
    split
    · exact ((insN_perm x r).cons y).trans (List.Perm.swap x y r)
    · exact List.Perm.refl _
theorem getD_set_n {O : List Nat} {x v s : Nat} (hx : x < O.length) : (O.set x v).getD s 0 = if s = x then v else O.getD s 0 := by
  by_cases h : s = x
  · subst h
    rw [if_pos rfl, List.getD_eq_getElem?_getD, List.getElem?_set_self hx]; rfl
  · rw [if_neg h, List.getD_eq_getElem?_getD, List.getElem?_set_ne (fun e => h e.symm), ← List.getD_eq_getElem?_getD]
theorem bump_length : ∀ (L O : List Nat), (bump O L).length = O.length
  | [], _ => rfl
  | x :: t, O => by rw [bump, bump_length t, List.length_set]
theorem bump_getD : ∀ (L O : List Nat) (s : Nat), L.Nodup → (∀ x, x ∈ L → x < O.length) → (bump O L).getD s 0 = O.getD s 0 + if s ∈ L then 1 else 0
  | [], O, s, _, _ => by rw [bump, if_neg (List.not_mem_nil)]; rfl
  | x :: t, O, s, hd, hl => by
    obtain ⟨h1, h2⟩ := List.nodup_cons.1 hd
    rw [bump, bump_getD t _ s h2 (fun y hy => by rw [List.length_set]; exact hl y (List.mem_cons_of_mem _ hy)), getD_set_n (hl x (List.mem_cons_self ..))]
    by_cases h : s = x
    · subst h
      rw [if_pos rfl, if_neg h1, if_pos (List.mem_cons_self ..)]
    · rw [if_neg h]
      by_cases h3 : s ∈ t
      · rw [if_pos h3, if_pos (List.mem_cons_of_mem _ h3)]
      · rw [if_neg h3, if_neg (fun e => by rcases List.mem_cons.1 e with e | e; exact h e; exact h3 e)]
/-- what holds between two merges -/
structure Good (cs : Nat → Nat) (N : Nat) (Z : List Nat) (ns : List Nd) (O : List Nat) : Prop where
  sorted : (ns.map Prod.fst).Pairwise (· ≤ ·)
  perm : (ns.flatMap Prod.snd).Perm Z
  node : ∀ n, n ∈ ns → n.1 = (n.2.map cs).sum ∧ 0 < n.2.length ∧ (∀ s, s ∈ n.2 → O.getD s 0 + 1 ≤ n.2.length) ∧ (n.2.map fun s => 2 ^ (N - O.getD s 0)).sum = 2 ^ N
  zero : ∀ s, s ∉ Z → O.getD s 0 = 0
theorem sum_congr {L : List Nat} {f g : Nat → Nat} (h : ∀ s, s ∈ L → f s = g s) : (L.map f).sum = (L.map g).sum := by rw [List.map_congr_left h]
theorem sum_double : ∀ {L : List Nat} {f g : Nat → Nat}, (∀ s, s ∈ L → f s = 2 * g s) → (L.map f).sum = 2 * (L.map g).sum
  | [], _, _, _ => rfl
  | x :: t, f, g, h => by
    rw [List.map_cons, List.map_cons, List.sum_cons, List.sum_cons, h x (List.mem_cons_self ..), sum_double (fun s hs => h s (List.mem_cons_of_mem _ hs))]; omega
theorem sum_plus : ∀ {L : List Nat} {f g h : Nat → Nat}, (∀ s, s ∈ L → f s = g s + h s) → (L.map f).sum = (L.map g).sum + (L.map h).sum
  | [], _, _, _, _ => rfl
  | x :: t, f, g, k, h => by
    rw [List.map_cons, List.map_cons, List.map_cons, List.sum_cons, List.sum_cons, List.sum_cons, h x (List.mem_cons_self ..), sum_plus (fun s hs => h s (List.mem_cons_of_mem _ hs))]; omega
theorem Good.step {cs : Nat → Nat} {N : Nat} {Z O : List Nat} {a b : Nd} {r : List Nd} (h : Good cs N Z (a :: b :: r) O) (hd : Z.Nodup) (hl : ∀ s, s ∈ Z → s < O.length) (hN : Z.length ≤ N) :
    Good cs N Z (insN (a.1 + b.1, a.2 ++ b.2) r) (bump O (a.2 ++ b.2)) ∧ (Z.map fun s => cs s * (bump O (a.2 ++ b.2)).getD s 0).sum = (Z.map fun s => cs s * O.getD s 0).sum + (a.1 + b.1) := by
  have hp : (a.2 ++ b.2 ++ r.flatMap Prod.snd).Perm Z := by
    have := h.perm
    simpa [List.flatMap_cons] using this
  have hd2 : (a.2 ++ b.2 ++ r.flatMap Prod.snd).Nodup := hp.nodup_iff.2 hd
  obtain ⟨hab, _, hdj⟩ := List.nodup_append.1 hd2
  have hlab : ∀ x, x ∈ a.2 ++ b.2 → x < O.length := fun x hx => hl x (hp.mem_iff.1 (List.mem_append_left _ hx))
  have hget := fun s => bump_getD (a.2 ++ b.2) O s hab hlab
  obtain ⟨ha1, ha2, ha3, ha4⟩ := h.node a (List.mem_cons_self ..)
  obtain ⟨hb1, hb2, hb3, hb4⟩ := h.node b (List.mem_cons_of_mem _ (List.mem_cons_self ..))
  have hlen : a.2.length + b.2.length ≤ N := by
    have := hp.length_eq
    simp only [List.length_append] at this
    omega
  have hin : ∀ s, s ∈ a.2 ++ b.2 → (bump O (a.2 ++ b.2)).getD s 0 = O.getD s 0 + 1 := fun s hs => by rw [hget, if_pos hs]
  have hnin : ∀ s, s ∉ a.2 ++ b.2 → (bump O (a.2 ++ b.2)).getD s 0 = O.getD s 0 := fun s hs => by rw [hget, if_neg hs, Nat.add_zero]
  have hsz : ∀ s, s ∈ a.2 ++ b.2 → O.getD s 0 + 2 ≤ a.2.length + b.2.length := fun s hs => by
    rcases List.mem_append.1 hs with e | e
    · have := ha3 s e; omega
    · have := hb3 s e; omega
  refine ⟨⟨?_, ?_, ?_, ?_⟩, ?_⟩
  · rw [insN_fst]
    have h1 := h.sorted
    rw [List.map_cons, List.map_cons] at h1
    exact insW_sorted _ _ (List.pairwise_cons.1 (List.pairwise_cons.1 h1).2).2
  · refine List.Perm.trans ((insN_perm _ r).flatMap_right _) ?_
    rw [List.flatMap_cons]
    exact hp
  · intro n hn
    rcases insN_mem _ _ _ hn with rfl | e
    · refine ⟨by rw [List.map_append, List.sum_append, ← ha1, ← hb1], by rw [List.length_append]; omega, fun s hs => ?_, ?_⟩
      · rw [hin s hs, List.length_append]
        have := hsz s hs
        omega
      · have e2 := sum_double (L := a.2 ++ b.2) (f := fun s => 2 ^ (N - O.getD s 0)) (g := fun s => 2 ^ (N - (bump O (a.2 ++ b.2)).getD s 0)) (fun s hs => by
          have := hsz s hs
          rw [hin s hs, show N - O.getD s 0 = (N - (O.getD s 0 + 1)) + 1 by omega, Nat.pow_succ, Nat.mul_comm])
        rw [List.map_append, List.sum_append, ha4, hb4] at e2
        show ((a.2 ++ b.2).map fun s => 2 ^ (N - (bump O (a.2 ++ b.2)).getD s 0)).sum = 2 ^ N
        omega
    · obtain ⟨h1, h2, h3, h4⟩ := h.node n (List.mem_cons_of_mem _ (List.mem_cons_of_mem _ e))
      have hno : ∀ s, s ∈ n.2 → s ∉ a.2 ++ b.2 := fun s hs hs2 => hdj s hs2 s (List.mem_flatMap.2 ⟨n, e, hs⟩) rfl
      refine ⟨h1, h2, fun s hs => by rw [hnin s (hno s hs)]; exact h3 s hs, ?_⟩
      rw [← h4]
      exact sum_congr fun s hs => by rw [hnin s (hno s hs)]
  · intro s hs
    rw [hnin s (fun e => hs (hp.mem_iff.1 (List.mem_append_left _ e)))]
    exact h.zero s hs
  · rw [← perm_sum (hp.map _), ← perm_sum (hp.map _), List.map_append (l₁ := a.2 ++ b.2), List.map_append (l₁ := a.2 ++ b.2), List.sum_append, List.sum_append,
      sum_plus (L := a.2 ++ b.2) (g := fun s => cs s * O.getD s 0) (h := cs) (fun s hs => by rw [hin s hs, Nat.mul_add, Nat.mul_one]),
      sum_congr (L := r.flatMap Prod.snd) (g := fun s => cs s * O.getD s 0) (fun s hs => by rw [hnin s (fun e => hdj s e s hs rfl)]),
      List.map_append (f := cs), List.sum_append, ← ha1, ← hb1]
    omega
/-- all merges -/
theorem Good.all {cs : Nat → Nat} {N : Nat} {Z : List Nat} (hd : Z.Nodup) (hN : Z.length ≤ N) : ∀ (k : Nat) (ns : List Nd) (O : List Nat), ns.length ≤ k + 1 → 0 < ns.length → (∀ s, s ∈ Z → s < O.length) → Good cs N Z ns O →
    (bestO k ns O).length = O.length ∧ (∃ n, Good cs N Z [n] (bestO k ns O)) ∧ (Z.map fun s => cs s * (bestO k ns O).getD s 0).sum = (Z.map fun s => cs s * O.getD s 0).sum + costW k (ns.map Prod.fst)
  | 0, [n], O, _, _, _, h => ⟨rfl, ⟨n, h⟩, rfl⟩
  | k + 1, [n], O, _, _, _, h => ⟨rfl, ⟨n, h⟩, rfl⟩
  | 0, a :: b :: r, _, h1, _, _, _ => by simp at h1
  | k + 1, a :: b :: r, O, h1, _, hl, h => by
    obtain ⟨h2, h3⟩ := h.step hd hl hN
    have hi := insN_length (a.1 + b.1, a.2 ++ b.2) r
    simp only [List.length_cons] at h1
    obtain ⟨e1, e2, e3⟩ := Good.all hd hN k (insN (a.1 + b.1, a.2 ++ b.2) r) (bump O (a.2 ++ b.2)) (by omega) (by omega) (fun s hs => by rw [bump_length]; exact hl s hs) h2
    refine ⟨by rw [bestO, e1, bump_length], by rw [bestO]; exact e2, ?_⟩
    rw [bestO, e3, h3, insN_fst]
    simp only [List.map_cons, costW]
    omega
/-- the nodes to begin with -/
def nodes0 (cs : Nat → Nat) (Z : List Nat) : List Nd := Z.map fun s => (cs s, [s])
theorem Good.start {cs : Nat → Nat} {N n : Nat} {Z : List Nat} (hs : Asc cs Z) : Good cs N Z (nodes0 cs Z) (List.replicate n 0) := by
  have h0 : ∀ s, (List.replicate n 0).getD s 0 = 0 := fun s => by
    rw [List.getD_eq_getElem?_getD, List.getElem?_replicate]; split <;> rfl
  refine ⟨?_, ?_, fun m hm => ?_, fun s _ => h0 s⟩
  · unfold nodes0
    rw [List.map_map]
    exact List.pairwise_map.2 hs
  · unfold nodes0
    rw [List.flatMap_map]
    simp
  · obtain ⟨s, _, rfl⟩ := List.mem_map.1 hm
    refine ⟨by simp, by simp, fun x hx => by rw [h0]; simp, by simp only [h0]; simp⟩
end Go.Proofs.Ytdfoimgckahjpaa
