/-
  Two joiners side by side; MultiTwins. No conditions.
-/
import Derived.Test.YtglmlhbchfgliaaMuAw
import Derived.Test.YtglmlhbchfgliaaMuLHead
import Derived.Test.YtglmlhbchfgliaaMuFrames
namespace Go.Proofs.Ytglmlhbchfgliaa
open Go.RowKit Go.Maps
theorem joinF_most {most : Nat} : ∀ {l : List Pc} {i : Nat} {acc : List UInt8} {k : Nat} {d : List UInt8}, joinF most i acc l = some (k, some d) → d.length ≤ most
  | [], _, _, _, _, h => by simp [joinF] at h
  | p :: r, i, acc, k, d, h => by
    rw [joinF] at h
    split at h
    · split at h <;> simp at h
    · split at h
      · simp only [Option.some.injEq, Prod.mk.injEq] at h
        obtain ⟨_, h⟩ := h
        split at h
        · rename_i hle
          cases h
          exact hle
        · cases h
      · exact joinF_most h
theorem joinD_most {most : Nat} {l : List Pc} : ∀ x ∈ joinD (joinP most l), x.length ≤ most := by
  intro x hx
  cases l with
  | nil => simp [joinP, joinD] at hx
  | cons p r =>
    rw [joinP] at hx
    split at hx
    · cases hj : joinF most 0 [] (p :: r) with
      | none => rw [hj] at hx; simp [joinD] at hx
      | some kd =>
        obtain ⟨k, d⟩ := kd
        rw [hj] at hx
        cases d with
        | none => simp [joinD] at hx
        | some d =>
          simp only [joinD, List.mem_singleton] at hx
          subst hx
          exact joinF_most hj
    · simp [joinD] at hx
theorem step_most {s t : JS} {d : List (List UInt8)} (h : stepP s = some (t, d)) : (∀ x ∈ d, x.length ≤ s.most) ∧ t.most = s.most := by
  unfold stepP at h
  split at h
  · simp only [Option.some.injEq, Prod.mk.injEq] at h
    obtain ⟨rfl, rfl⟩ := h
    refine ⟨joinD_most, ?_⟩
    cases joinP s.most (runP s) <;> rfl
  · split at h
    · simp only [Option.some.injEq, Prod.mk.injEq] at h
      obtain ⟨rfl, rfl⟩ := h
      exact ⟨by simp, rfl⟩
    · split at h
      · simp only [Option.some.injEq, Prod.mk.injEq] at h
        obtain ⟨rfl, rfl⟩ := h
        exact ⟨by simp, rfl⟩
      · split at h
        · simp only [Option.some.injEq, Prod.mk.injEq] at h
          obtain ⟨rfl, rfl⟩ := h
          exact ⟨by simp, rfl⟩
        · cases h
theorem Goes.most {s t : JS} {L : List (List UInt8)} (h : Goes s L t) : ∀ x ∈ L, x.length ≤ s.most := by
  induction h with
  | stop _ => intro x hx; cases hx
  | go h _ ih =>
    obtain ⟨h1, h2⟩ := step_most h
    intro x hx
    rcases List.mem_append.1 hx with e | e
    · exact h1 x e
    · rw [← h2]; exact ih x e
theorem AddR.most {s t : JS} {link : Int} {l : List UInt8} {L : List (List UInt8)} {e : Nat} (h : AddR s link l L e t) : ∀ x ∈ L, x.length ≤ s.most := by
  unfold AddR at h
  split at h
  · obtain ⟨rfl, _⟩ := h; intro x hx; cases hx
  · split at h
    · obtain ⟨rfl, _⟩ := h; intro x hx; cases hx
    · split at h
      · obtain ⟨rfl, _⟩ := h; intro x hx; cases hx
      · exact h.2.most
/-- what is refused changes nothing -/
theorem AddR.no {s t : JS} {link : Int} {l : List UInt8} {L : List (List UInt8)} {e : Nat} (h : AddR s link l L e t) (he : e ≠ 0) : L = [] ∧ t = s := by
  unfold AddR at h
  split at h
  · exact ⟨h.1, h.2.2⟩
  · split at h
    · exact ⟨h.1, h.2.2⟩
    · split at h
      · exact ⟨h.1, h.2.2⟩
      · exact absurd h.1 he
/-- what was taken is old -/
theorem AddR.again {s t : JS} {link : Int} {l : List UInt8} {L : List (List UInt8)} (h : AddR s link l L 0 t) (hs : Rest s) (hl : l.length ≤ 100000) : AddR t link l [] 8 t := by
  have hr := h.rest hs hl
  unfold AddR at h
  split at h
  · obtain ⟨_, h, _⟩ := h; cases h
  · rename_i h1
    split at h
    · rename_i h2; exact absurd h.2.1.symm h2
    · rename_i h2
      split at h
      · obtain ⟨_, h, _⟩ := h; cases h
      · rename_i h3
        have ha : 0 ≤ aheadI (rgN s.short) s.next (headP l s.short).n := by
          unfold oldP at h3
          simp only [Bool.or_eq_true, decide_eq_true_eq, not_or] at h3
          omega
        have he : (headP l s.short).err = 0 := by simpa using h2
        have hk := hs.ok.put (link := link.toNat) (p := pcOf l s.short) (headP_lt he) ha hs.few (Nat.le_trans headP_len hl)
        obtain ⟨_, _, _, a4, a5, _⟩ := h.2.ok hk
        have a5 : t.short = s.short := a5
        unfold AddR
        rw [if_neg (by rw [hr.2.2.2.1]; exact h1), if_neg (by rw [a5]; exact h2), if_pos]
        · exact ⟨rfl, rfl, rfl⟩
        · unfold oldP
          rw [a5, a4]
          have hg : (putP s link.toNat (headP l s.short).n (pcOf l s.short)).last.getD link.toNat 0 = ((headP l s.short).n : Int) := by
            show (s.last.set link.toNat ((headP l s.short).n : Int)).getD link.toNat 0 = _
            rw [List.getD_eq_getElem?_getD, List.getElem?_set_self (by omega)]
            rfl
          rw [hg]
          simp
section
variable {w w' : World} {B B' b b' bm bm' : Nat} {vl vl' : Value} {s s' : JS}
theorem Jo.foot_lt (h : Jo w B b bm vl s) {k : Nat} (hk : JFoot b bm vl k) : k < w.heap.size := by
  rcases hk with e | e | e
  · rw [e]; exact h.lt
  · rw [e]; exact h.mlt
  · exact (own_ownlt h.row e).2
/-- another joiner's blocks are written: this one stays -/
theorem Jo.beside (h : Jo w B b bm vl s) (h' : Jo w B' b' bm' vl' s') (hd : ∀ k, JFoot b bm vl k → ¬ JFoot b' bm' vl' k) (hb : ButOf (JFoot b' bm' vl') w w') : Jo w' B b bm vl s := by
  obtain ⟨D, hv, m1, m2, m3⟩ := h'.map
  refine h.but hb (hd b (Or.inl rfl)) (hd bm (Or.inr (Or.inl rfl))) (fun k hk => hd k (Or.inr (Or.inr hk))) (fun hp k hk e => ?_)
  rcases e with e | e | e
  · exact own_blk_ne hp h'.blk (by decide) (e ▸ hk)
  · exact ownsMap_own m1 hp (e ▸ hk)
  · exact own_own_ne hp h'.row (by decide) hk e
/-- the joiner's blocks are written: a row of bytes stays -/
theorem own_jo {B0 n : Nat} {v : Value} {xs : List Value} (ho : w.ownsRow B0 5 1 v n xs) (h : Jo w B b bm vl s) (hb : ButOf (JFoot b bm vl) w w') : w'.ownsRow B0 5 1 v n xs := by
  obtain ⟨D, hv, m1, m2, m3⟩ := h.map
  refine own_but ho hb (fun k hk e => ?_)
  rcases e with e | e | e
  · exact own_blk_ne ho h.blk (by decide) (e ▸ hk)
  · exact ownsMap_own m1 ho (e ▸ hk)
  · exact own_own_ne ho h.row (by decide) hk e
end
end Go.Proofs.Ytglmlhbchfgliaa
