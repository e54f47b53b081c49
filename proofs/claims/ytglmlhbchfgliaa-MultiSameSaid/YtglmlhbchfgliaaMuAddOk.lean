/-
  Add of the program, where it holds a fragment, or the number is old. Conditions: a fragment has no more than 100000 bytes.
-/
import Derived.Test.YtglmlhbchfgliaaMuAdd
import Derived.Test.YtglmlhbchfgliaaHeld
namespace Go.Proofs.Ytglmlhbchfgliaa
open Go.RowKit Go.Maps
theorem headP_lt {l : List UInt8} {short : Bool} (h : (headP l short).err = 0) : (headP l short).n < rgN short := by
  unfold headP at h ⊢
  split at h
  · cases h
  · rename_i h1
    rw [if_neg h1]
    split at h
    · cases h
    · rename_i h2
      rw [if_neg h2]
      show hdNum l (hdSize short - 1) < rgN short
      cases short
      · have h3 : (l.getD 0 0).toNat &&& 15 = 0 := by
          have e : (l.getD 0 0).toNat &&& 63 = 0 := by simpa [hdMask] using h2
          have : (15 : Nat) = 63 &&& 15 := by decide
          rw [this, ← Nat.and_assoc, e]; simp
        have a1 := (l.getD 1 0).toNat_lt
        have a2 := (l.getD 2 0).toNat_lt
        have a3 := (l.getD 3 0).toNat_lt
        show ((((l.getD 0 0).toNat &&& 15) * 256 + (l.getD 1 0).toNat) * 256 + (l.getD 2 0).toNat) * 256 + (l.getD 3 0).toNat < 16777216
        omega
      · exact hdNum_lt l 1
theorem headP_len {l : List UInt8} {short : Bool} : (headP l short).body.length ≤ l.length := by
  unfold headP
  split
  · simp
  · split
    · simp
    · simp
theorem low_ex {I : Nat → Prop} (h : ∃ n, I n) : ∃ n, I n ∧ ∀ m, I m → n ≤ m := by
  obtain ⟨n, hn⟩ := h
  induction n using Nat.strongRecOn with
  | ind n ih =>
    by_cases hc : ∃ m, m < n ∧ I m
    · obtain ⟨m, h1, h2⟩ := hc
      exact ih m h1 h2
    · exact ⟨n, hn, fun m hm => by
        by_cases hlt : m < n
        · exact absurd ⟨m, hlt, hm⟩ hc
        · omega⟩
/-- the least number of which something holds -/
theorem low_spec {I : Nat → Prop} (h : ∃ n, I n) : I (Classical.epsilon fun n => I n ∧ ∀ m, I m → n ≤ m) := (Classical.epsilon_spec (low_ex h)).1
theorem low_le {I : Nat → Prop} {m : Nat} (h : I m) : (Classical.epsilon fun n => I n ∧ ∀ m, I m → n ≤ m) ≤ m := (Classical.epsilon_spec (low_ex ⟨m, h⟩)).2 m h
/-- what holds ahead of each step -/
def AddInv (w : World) (B b bm o : Nat) (vl : Value) (s0 : JS) (wr : World) (n : Nat) : Prop :=
  ∃ (s1 : JS) (L : List (List UInt8)) (vo : Value), Jo wr B b bm vl s1 ∧ Ok s1 ∧ Blk wr o #[vo] 23 ∧ Fr wr w.heap.size vo L ∧ ButOf (JFoot b bm vl) w wr ∧ L.length + s1.held.length ≤ 200 ∧
    (∀ M t, Goes s1 M t → Goes s0 (L ++ M) t) ∧ n = measP s1
theorem addInv_next {w wr w' : World} {B b bm o : Nat} {vl vo : Value} {s0 s1 t : JS} {L d : List (List UInt8)} (hok : Ok s1) (hF : Fr wr w.heap.size vo L) (hb : ButOf (JFoot b bm vl) w wr) (hL : L.length + s1.held.length ≤ 200)
    (hG : ∀ M t, Goes s1 M t → Goes s0 (L ++ M) t) (hst : stepP s1 = some (t, d)) (hD : Done wr w' B b bm vl w.heap.size o vo (stepS s1) (L ++ stepD s1)) (ho : w.heap.size ≤ o) : AddInv w B b bm o vl s0 w' (measP t) ∧ measP t < measP s1 := by
  have e1 : stepS s1 = t := by unfold stepS; rw [hst]
  have e2 : stepD s1 = d := by unfold stepD; rw [hst]
  rw [e1, e2] at hD
  obtain ⟨a1, a2, a3, _⟩ := step_ok hok hst
  obtain ⟨vo', b1, b2, b3, b4⟩ := hD.ex
  refine ⟨⟨t, L ++ d, vo', b1, a1, b2, b3, hb.after hD.but (fun i hi e => ?_), by rw [List.length_append]; omega, fun M u hM => ?_, rfl⟩, a2⟩
  · rcases e with e | e | e
    · exact e
    · omega
    · obtain ⟨xs, h3, _⟩ := hF.ex
      have := (own_ownlt h3 e).1
      omega
  · rw [List.append_assoc]
    exact hG _ _ (Goes.go hst hM)
theorem addInv_end {w wr w' : World} {B b bm o : Nat} {vl vo : Value} {s0 s1 : JS} {L : List (List UInt8)} (hF : Fr wr w.heap.size vo L) (hb : ButOf (JFoot b bm vl) w wr)
    (hG : ∀ M t, Goes s1 M t → Goes s0 (L ++ M) t) (hst : stepP s1 = none) (hD : Done wr w' B b bm vl w.heap.size o vo (stepS s1) (L ++ stepD s1)) (ho : w.heap.size ≤ o) :
    Goes s0 L s1 ∧ ∃ vo', w'.cell? ⟨o, 0, none⟩ = some vo' ∧ Jo w' B b bm vl s1 ∧ Fr w' w.heap.size vo' L ∧ ButOf (JFoot b bm vl) w w' := by
  have e1 : stepS s1 = s1 := by unfold stepS; rw [hst]
  have e2 : stepD s1 = [] := by unfold stepD; rw [hst]
  rw [e1, e2, List.append_nil] at hD
  obtain ⟨vo', b1, b2, b3, b4⟩ := hD.ex
  have := hG _ _ (Goes.stop hst)
  rw [List.append_nil] at this
  refine ⟨this, vo', (by rw [b2.cell]; rfl), b1, b3, hb.after hD.but (fun i hi e => ?_)⟩
  rcases e with e | e | e
  · exact e
  · omega
  · obtain ⟨xs, h3, _⟩ := hF.ex
    have := (own_ownlt h3 e).1
    omega
theorem Ok.put {s : JS} {link n : Nat} {p : Pc} (h : Ok s) (hn : n < rgN s.short) (ha : 0 ≤ aheadI (rgN s.short) s.next n) (hf : s.held.length ≤ 64) (hp : p.b.length ≤ 100000) : Ok (putP s link n p) := by
  refine ⟨fun q hq => ?_, fun q hq => ?_, by simpa [putP] using h.links, h.next, by simp [putP]; omega, fun q hq => ?_, fun x hx => ?_⟩
  · rcases List.mem_append.1 hq with e | e
    · exact h.ahead q e
    · rw [List.mem_singleton] at e; subst e; exact ha
  · rcases List.mem_append.1 hq with e | e
    · exact h.mild q e
    · rw [List.mem_singleton] at e; subst e; exact hp
  · rcases List.mem_append.1 hq with e | e
    · exact h.num q e
    · rw [List.mem_singleton] at e; subst e; exact hn
  · rcases List.mem_or_eq_of_mem_set hx with e | e
    · exact h.lst x e
    · subst e; exact ⟨by omega, by show (n : Int) < (rgN s.short : Int); omega⟩
theorem own_blk {w : World} {B E n c g : Nat} {xs : List Value} (h : w.ownsRow B E 1 (.slice (some ⟨g, 0, none⟩) n c) n xs) : ∃ cs, Blk w g cs E := by
  rcases h.2 with ⟨e, _⟩ | ⟨g', cap, cur, e, hg, hh, _⟩
  · cases e
  · cases e; exact ⟨cur, hh⟩
-- GENERATED (gen_muadd.py)
set_option maxRecDepth 100000 in
set_option maxHeartbeats 4000000 in
theorem add_old {w : World} {B b bm : Nat} {vl : Value} {s : JS} {a : Option Addr} {n c : Nat} {l : List UInt8} (link : Nat) (h : Jo w B b bm vl s) (hB : Bts w a n c l) (hl : link < s.last.length) (he : (headP l s.short).err = 0) (ho : oldP s link (headP l s.short).n = true) :
    Calls Try.prog 15 #[.pointer (some ⟨b, 0, none⟩), .int .i64 (link : Nat), .slice a n c] w fun e w' => e = .returned (.tuple #[.slice none 0 0, .int .i64 8]) ∧ Below w.heap.size w w' := by
  have c0 := h.c0
  have c2 := h.c2
  have c5 := h.c5
  obtain ⟨g, hg, ⟨cl, rfl⟩, cg⟩ := row_at h.row hl
  have hlI : (link : Int) < (s.last.length : Int) := by omega
  have hl0 : (0 : Int) ≤ (link : Int) := by omega
  have hh := fun W hW => mhead_any (w := W) (a := a) (n := n) (c := c) (l := l) s.short hW
  have hnR := headP_lt he
  have hR := rgN_two s.short
  have hnx := h.next
  have hxb := h.lst (s.last.getD link 0) (by rw [List.getD_eq_getElem?_getD, List.getElem?_eq_getElem hl]; exact List.getElem_mem hl)
  generalize headP l s.short = d at *
  have heI : (((d.err : Nat) : Int) != 0) = false := by rw [he]; rfl
  have hn24 : d.n < 16777216 := by omega
  unfold oldP at ho
  have hc1 := fun p q W (hF : From W p q (rgN s.short) s.next) => fromc_any hF hR hnx hnR
  have hc2 := fun p q W (hF : From W p q (rgN s.short) s.next) (y : Nat) (hy : y < rgN s.short) => fromc_any hF hR hnx hy
  generalize aheadI (rgN s.short) s.next d.n = A at hc1 ho
  replace hc1 := Lib.hid hc1
  generalize s.last.getD link 0 = x at *
  by_cases hA : A < 0
  · clear ho hc2
    cases hgp : getP s.held d.n with
    | none =>
      replace hgp := Lib.hid hgp
      go_enter Try.func15, Try.ntmps15
      go_wp2_with (first | (go_at_call 18; refine (hh _ hB).mono ?_; rintro e w1 ⟨v, rfl, hv, hb⟩; obtain ⟨av, cv, rfl⟩ := own_slice hv; simp only [Hd.res]; have h1 := h.below hb; have g2 := h1.c2; have g3 := h1.c3) | (go_at_call 29; refine (from_any _ g2).mono ?_; rintro e w2 ⟨rfl, hF, hb2⟩; have h2 := h1.below hb2; have g4 := h2.c4; obtain ⟨D, hv2, m1, m2, m3⟩ := h2.map; simp only [fromV]) | (at_lookup; refine wp_look_no _ rfl _ _ rfl rfl m1 m2 m3 rfl hn24 hgp.out ?_))
      have hb12 : Below w.heap.size w w2 := hb.trans (hb2.mono hb.size)
      have hb3 := below_alloc (Below.refl w2.heap.size w2) (.cells #[.bool false, .bool false, .slice none 0 0] 75) (Nat.le_refl _)
      have hF3 := (hF.below hb3).below (Below.refl _ _).drew
      have h3 := (h2.below hb3).below (Below.refl _ _).drew
      have hb123 := (hb12.trans (hb3.mono hb12.size)).drew
      have hS3 : _ ∧ _ := ⟨h3.c5, (hb123.cell (p := ⟨g, link, none⟩) hg).trans cg⟩
      have hHeld0 := hS3
      refine wp_region_held_drew (S := fun W => W.cell? ⟨b, 5, none⟩ = some (.slice (some ⟨g, 0, none⟩) s.last.length cl) ∧ W.cell? ⟨g, link, none⟩ = some (.int .i64 x)) (by kernel_rfl) hHeld0 (fun hHeld => ?_)
      refine held_take (i := 0) (v := ?_) rfl (by kernel_rfl) (by kernel_rfl) (by kernel_rfl) (fun _ _ _ h => h) (Or.inl ⟨by kernel_rfl, ?_⟩) (by assumption) ?_
      rotate_left
      · intro w hSw
        (try dsimp only at hSw)
        go_split_ands
        go_simp
        all_goals with_reducible rfl
      simp only [List.setIfInBounds_toArray, List.set_cons_zero, List.set_cons_succ]
      refine held_take (i := 1) (v := ?_) rfl (by kernel_rfl) (by kernel_rfl) (by kernel_rfl) (fun _ _ _ h => h) (Or.inl ⟨by kernel_rfl, ?_⟩) (by assumption) ?_
      rotate_left
      · intro w hSw
        (try dsimp only at hSw)
        go_split_ands
        go_simp
        all_goals with_reducible rfl
      simp only [List.setIfInBounds_toArray, List.set_cons_zero, List.set_cons_succ]
      refine wpAnyH_ready (rs := [2]) (by kernel_rfl) (by simp) ?_
      refine AllReadyH.cons rfl (fun K hK => ?_) AllReadyH.nil
      go_simp
      go_wp2_with (go_at_call 37; refine (hc1.out _ _ _ hF3).mono ?_; rintro e w' ⟨rfl, rfl⟩)
      refine hK.out _ _ ?_ (fun hHeld => ?_)
      · exact hHeld
      clear hK K
      refine held_take (i := 3) (v := ?_) rfl (by kernel_rfl) (by kernel_rfl) (by kernel_rfl) (fun _ _ _ h => h) (Or.inl ⟨by kernel_rfl, ?_⟩) (by assumption) ?_
      rotate_left
      · intro w hSw
        (try dsimp only at hSw)
        go_split_ands
        go_simp
        all_goals with_reducible rfl
      simp only [List.setIfInBounds_toArray, List.set_cons_zero, List.set_cons_succ]
      refine held_take (i := 4) (v := ?_) rfl (by kernel_rfl) (by kernel_rfl) (by kernel_rfl) (fun _ _ _ h => h) (Or.inl ⟨by kernel_rfl, ?_⟩) (by assumption) ?_
      rotate_left
      · intro w hSw
        (try dsimp only at hSw)
        go_split_ands
        go_simp
        all_goals with_reducible rfl
      simp only [List.setIfInBounds_toArray, List.set_cons_zero, List.set_cons_succ]
      refine held_take (i := 5) (v := undef) rfl (by kernel_rfl) (by kernel_rfl) (by kernel_rfl) (fun _ _ _ h => h) (Or.inr ⟨by kernel_rfl, rfl⟩) (by assumption) ?_
      simp only [List.setIfInBounds_toArray, List.set_cons_zero, List.set_cons_succ]
      refine held_take (i := 6) (v := ?_) rfl (by kernel_rfl) (by kernel_rfl) (by kernel_rfl) (fun _ _ _ h => h) (Or.inl ⟨by kernel_rfl, ?_⟩) (by assumption) ?_
      rotate_left
      · intro w hSw
        (try dsimp only at hSw)
        go_split_ands
        go_simp
        all_goals with_reducible rfl
      simp only [List.setIfInBounds_toArray, List.set_cons_zero, List.set_cons_succ]
      refine held_take (i := 7) (v := ?_) rfl (by kernel_rfl) (by kernel_rfl) (by kernel_rfl) (fun _ _ _ h => h) (Or.inl ⟨by kernel_rfl, ?_⟩) (by assumption) ?_
      rotate_left
      · intro w hSw
        (try dsimp only at hSw)
        go_split_ands
        go_simp
        all_goals with_reducible rfl
      simp only [List.setIfInBounds_toArray, List.set_cons_zero, List.set_cons_succ]
      refine held_take (i := 8) (v := undef) rfl (by kernel_rfl) (by kernel_rfl) (by kernel_rfl) (fun _ _ _ h => h) (Or.inr ⟨by kernel_rfl, rfl⟩) (by assumption) ?_
      simp only [List.setIfInBounds_toArray, List.set_cons_zero, List.set_cons_succ]
      refine held_take (i := 9) (v := undef) rfl (by kernel_rfl) (by kernel_rfl) (by kernel_rfl) (fun _ _ _ h => h) (Or.inr ⟨by kernel_rfl, rfl⟩) (by assumption) ?_
      simp only [List.setIfInBounds_toArray, List.set_cons_zero, List.set_cons_succ]
      refine held_take (i := 10) (v := undef) rfl (by kernel_rfl) (by kernel_rfl) (by kernel_rfl) (fun _ _ _ h => h) (Or.inr ⟨by kernel_rfl, rfl⟩) (by assumption) ?_
      simp only [List.setIfInBounds_toArray, List.set_cons_zero, List.set_cons_succ]
      refine held_take (i := 11) (v := undef) rfl (by kernel_rfl) (by kernel_rfl) (by kernel_rfl) (fun _ _ _ h => h) (Or.inr ⟨by kernel_rfl, rfl⟩) (by assumption) ?_
      simp only [List.setIfInBounds_toArray, List.set_cons_zero, List.set_cons_succ]
      refine held_take (i := 12) (v := undef) rfl (by kernel_rfl) (by kernel_rfl) (by kernel_rfl) (fun _ _ _ h => h) (Or.inr ⟨by kernel_rfl, rfl⟩) (by assumption) ?_
      simp only [List.setIfInBounds_toArray, List.set_cons_zero, List.set_cons_succ]
      refine held_take (i := 13) (v := undef) rfl (by kernel_rfl) (by kernel_rfl) (by kernel_rfl) (fun _ _ _ h => h) (Or.inr ⟨by kernel_rfl, rfl⟩) (by assumption) ?_
      simp only [List.setIfInBounds_toArray, List.set_cons_zero, List.set_cons_succ]
      refine held_take (i := 14) (v := undef) rfl (by kernel_rfl) (by kernel_rfl) (by kernel_rfl) (fun _ _ _ h => h) (Or.inr ⟨by kernel_rfl, rfl⟩) (by assumption) ?_
      simp only [List.setIfInBounds_toArray, List.set_cons_zero, List.set_cons_succ]
      refine held_take (i := 15) (v := undef) rfl (by kernel_rfl) (by kernel_rfl) (by kernel_rfl) (fun _ _ _ h => h) (Or.inr ⟨by kernel_rfl, rfl⟩) (by assumption) ?_
      simp only [List.setIfInBounds_toArray, List.set_cons_zero, List.set_cons_succ]
      refine held_take (i := 16) (v := undef) rfl (by kernel_rfl) (by kernel_rfl) (by kernel_rfl) (fun _ _ _ h => h) (Or.inr ⟨by kernel_rfl, rfl⟩) (by assumption) ?_
      simp only [List.setIfInBounds_toArray, List.set_cons_zero, List.set_cons_succ]
      refine held_take (i := 17) (v := undef) rfl (by kernel_rfl) (by kernel_rfl) (by kernel_rfl) (fun _ _ _ h => h) (Or.inr ⟨by kernel_rfl, rfl⟩) (by assumption) ?_
      simp only [List.setIfInBounds_toArray, List.set_cons_zero, List.set_cons_succ]
      refine held_take (i := 18) (v := undef) rfl (by kernel_rfl) (by kernel_rfl) (by kernel_rfl) (fun _ _ _ h => h) (Or.inr ⟨by kernel_rfl, rfl⟩) (by assumption) ?_
      simp only [List.setIfInBounds_toArray, List.set_cons_zero, List.set_cons_succ]
      refine held_take (i := 19) (v := undef) rfl (by kernel_rfl) (by kernel_rfl) (by kernel_rfl) (fun _ _ _ h => h) (Or.inr ⟨by kernel_rfl, rfl⟩) (by assumption) ?_
      simp only [List.setIfInBounds_toArray, List.set_cons_zero, List.set_cons_succ]
      refine held_take (i := 20) (v := undef) rfl (by kernel_rfl) (by kernel_rfl) (by kernel_rfl) (fun _ _ _ h => h) (Or.inr ⟨by kernel_rfl, rfl⟩) (by assumption) ?_
      simp only [List.setIfInBounds_toArray, List.set_cons_zero, List.set_cons_succ]
      refine held_take (i := 21) (v := undef) rfl (by kernel_rfl) (by kernel_rfl) (by kernel_rfl) (fun _ _ _ h => h) (Or.inr ⟨by kernel_rfl, rfl⟩) (by assumption) ?_
      simp only [List.setIfInBounds_toArray, List.set_cons_zero, List.set_cons_succ]
      refine held_take (i := 22) (v := undef) rfl (by kernel_rfl) (by kernel_rfl) (by kernel_rfl) (fun _ _ _ h => h) (Or.inr ⟨by kernel_rfl, rfl⟩) (by assumption) ?_
      simp only [List.setIfInBounds_toArray, List.set_cons_zero, List.set_cons_succ]
      refine held_take (i := 23) (v := undef) rfl (by kernel_rfl) (by kernel_rfl) (by kernel_rfl) (fun _ _ _ h => h) (Or.inr ⟨by kernel_rfl, rfl⟩) (by assumption) ?_
      simp only [List.setIfInBounds_toArray, List.set_cons_zero, List.set_cons_succ]
      refine held_take (i := 24) (v := undef) rfl (by kernel_rfl) (by kernel_rfl) (by kernel_rfl) (fun _ _ _ h => h) (Or.inr ⟨by kernel_rfl, rfl⟩) (by assumption) ?_
      simp only [List.setIfInBounds_toArray, List.set_cons_zero, List.set_cons_succ]
      refine held_take (i := 25) (v := undef) rfl (by kernel_rfl) (by kernel_rfl) (by kernel_rfl) (fun _ _ _ h => h) (Or.inr ⟨by kernel_rfl, rfl⟩) (by assumption) ?_
      simp only [List.setIfInBounds_toArray, List.set_cons_zero, List.set_cons_succ]
      refine held_take (i := 26) (v := undef) rfl (by kernel_rfl) (by kernel_rfl) (by kernel_rfl) (fun _ _ _ h => h) (Or.inr ⟨by kernel_rfl, rfl⟩) (by assumption) ?_
      simp only [List.setIfInBounds_toArray, List.set_cons_zero, List.set_cons_succ]
      refine held_take (i := 27) (v := undef) rfl (by kernel_rfl) (by kernel_rfl) (by kernel_rfl) (fun _ _ _ h => h) (Or.inr ⟨by kernel_rfl, rfl⟩) (by assumption) ?_
      simp only [List.setIfInBounds_toArray, List.set_cons_zero, List.set_cons_succ]
      refine held_take (i := 28) (v := undef) rfl (by kernel_rfl) (by kernel_rfl) (by kernel_rfl) (fun _ _ _ h => h) (Or.inr ⟨by kernel_rfl, rfl⟩) (by assumption) ?_
      simp only [List.setIfInBounds_toArray, List.set_cons_zero, List.set_cons_succ]
      refine held_take (i := 29) (v := undef) rfl (by kernel_rfl) (by kernel_rfl) (by kernel_rfl) (fun _ _ _ h => h) (Or.inr ⟨by kernel_rfl, rfl⟩) (by assumption) ?_
      simp only [List.setIfInBounds_toArray, List.set_cons_zero, List.set_cons_succ]
      refine held_take (i := 30) (v := undef) rfl (by kernel_rfl) (by kernel_rfl) (by kernel_rfl) (fun _ _ _ h => h) (Or.inr ⟨by kernel_rfl, rfl⟩) (by assumption) ?_
      simp only [List.setIfInBounds_toArray, List.set_cons_zero, List.set_cons_succ]
      refine held_take (i := 31) (v := ?_) rfl (by kernel_rfl) (by kernel_rfl) (by kernel_rfl) (fun _ _ _ h => h) (Or.inl ⟨by kernel_rfl, ?_⟩) (by assumption) ?_
      rotate_left
      · intro w hSw
        (try dsimp only at hSw)
        go_split_ands
        go_simp
        all_goals with_reducible rfl
      simp only [List.setIfInBounds_toArray, List.set_cons_zero, List.set_cons_succ]
      refine wpAnyH_done (by kernel_rfl) ?_ _
      go_wp2_with fail
      go_ret2
      exact ⟨rfl, hb123⟩
    | some pc =>
      replace hgp := Lib.hid hgp
      go_enter Try.func15, Try.ntmps15
      go_wp2_with (first | (go_at_call 18; refine (hh _ hB).mono ?_; rintro e w1 ⟨v, rfl, hv, hb⟩; obtain ⟨av, cv, rfl⟩ := own_slice hv; simp only [Hd.res]; have h1 := h.below hb; have g2 := h1.c2; have g3 := h1.c3) | (go_at_call 29; refine (from_any _ g2).mono ?_; rintro e w2 ⟨rfl, hF, hb2⟩; have h2 := h1.below hb2; have g4 := h2.c4; obtain ⟨D, hv2, m1, m2, m3⟩ := h2.map; simp only [fromV]) | (at_lookup; refine wp_look_yes _ rfl _ _ rfl rfl m1 m2 m3 rfl hn24 hgp.out ?_; intro xv hxv; obtain ⟨xa, xc, rfl⟩ := own_slice hxv))
      have hb12 : Below w.heap.size w w2 := hb.trans (hb2.mono hb.size)
      have hb3 := below_alloc (Below.refl w2.heap.size w2) (.cells #[.bool pc.first, .bool pc.last, .slice xa pc.b.length xc] 75) (Nat.le_refl _)
      have hF3 := (hF.below hb3).below (Below.refl _ _).drew
      have h3 := (h2.below hb3).below (Below.refl _ _).drew
      have hb123 := (hb12.trans (hb3.mono hb12.size)).drew
      have hS3 : _ ∧ _ := ⟨h3.c5, (hb123.cell (p := ⟨g, link, none⟩) hg).trans cg⟩
      have hHeld0 := hS3
      refine wp_region_held_drew (S := fun W => W.cell? ⟨b, 5, none⟩ = some (.slice (some ⟨g, 0, none⟩) s.last.length cl) ∧ W.cell? ⟨g, link, none⟩ = some (.int .i64 x)) (by kernel_rfl) hHeld0 (fun hHeld => ?_)
      refine held_take (i := 0) (v := ?_) rfl (by kernel_rfl) (by kernel_rfl) (by kernel_rfl) (fun _ _ _ h => h) (Or.inl ⟨by kernel_rfl, ?_⟩) (by assumption) ?_
      rotate_left
      · intro w hSw
        (try dsimp only at hSw)
        go_split_ands
        go_simp
        all_goals with_reducible rfl
      simp only [List.setIfInBounds_toArray, List.set_cons_zero, List.set_cons_succ]
      refine held_take (i := 1) (v := ?_) rfl (by kernel_rfl) (by kernel_rfl) (by kernel_rfl) (fun _ _ _ h => h) (Or.inl ⟨by kernel_rfl, ?_⟩) (by assumption) ?_
      rotate_left
      · intro w hSw
        (try dsimp only at hSw)
        go_split_ands
        go_simp
        all_goals with_reducible rfl
      simp only [List.setIfInBounds_toArray, List.set_cons_zero, List.set_cons_succ]
      refine wpAnyH_ready (rs := [2]) (by kernel_rfl) (by simp) ?_
      refine AllReadyH.cons rfl (fun K hK => ?_) AllReadyH.nil
      go_simp
      go_wp2_with (go_at_call 37; refine (hc1.out _ _ _ hF3).mono ?_; rintro e w' ⟨rfl, rfl⟩)
      refine hK.out _ _ ?_ (fun hHeld => ?_)
      · exact hHeld
      clear hK K
      refine held_take (i := 3) (v := ?_) rfl (by kernel_rfl) (by kernel_rfl) (by kernel_rfl) (fun _ _ _ h => h) (Or.inl ⟨by kernel_rfl, ?_⟩) (by assumption) ?_
      rotate_left
      · intro w hSw
        (try dsimp only at hSw)
        go_split_ands
        go_simp
        all_goals with_reducible rfl
      simp only [List.setIfInBounds_toArray, List.set_cons_zero, List.set_cons_succ]
      refine held_take (i := 4) (v := ?_) rfl (by kernel_rfl) (by kernel_rfl) (by kernel_rfl) (fun _ _ _ h => h) (Or.inl ⟨by kernel_rfl, ?_⟩) (by assumption) ?_
      rotate_left
      · intro w hSw
        (try dsimp only at hSw)
        go_split_ands
        go_simp
        all_goals with_reducible rfl
      simp only [List.setIfInBounds_toArray, List.set_cons_zero, List.set_cons_succ]
      refine held_take (i := 5) (v := undef) rfl (by kernel_rfl) (by kernel_rfl) (by kernel_rfl) (fun _ _ _ h => h) (Or.inr ⟨by kernel_rfl, rfl⟩) (by assumption) ?_
      simp only [List.setIfInBounds_toArray, List.set_cons_zero, List.set_cons_succ]
      refine held_take (i := 6) (v := ?_) rfl (by kernel_rfl) (by kernel_rfl) (by kernel_rfl) (fun _ _ _ h => h) (Or.inl ⟨by kernel_rfl, ?_⟩) (by assumption) ?_
      rotate_left
      · intro w hSw
        (try dsimp only at hSw)
        go_split_ands
        go_simp
        all_goals with_reducible rfl
      simp only [List.setIfInBounds_toArray, List.set_cons_zero, List.set_cons_succ]
      refine held_take (i := 7) (v := ?_) rfl (by kernel_rfl) (by kernel_rfl) (by kernel_rfl) (fun _ _ _ h => h) (Or.inl ⟨by kernel_rfl, ?_⟩) (by assumption) ?_
      rotate_left
      · intro w hSw
        (try dsimp only at hSw)
        go_split_ands
        go_simp
        all_goals with_reducible rfl
      simp only [List.setIfInBounds_toArray, List.set_cons_zero, List.set_cons_succ]
      refine held_take (i := 8) (v := undef) rfl (by kernel_rfl) (by kernel_rfl) (by kernel_rfl) (fun _ _ _ h => h) (Or.inr ⟨by kernel_rfl, rfl⟩) (by assumption) ?_
      simp only [List.setIfInBounds_toArray, List.set_cons_zero, List.set_cons_succ]
      refine held_take (i := 9) (v := undef) rfl (by kernel_rfl) (by kernel_rfl) (by kernel_rfl) (fun _ _ _ h => h) (Or.inr ⟨by kernel_rfl, rfl⟩) (by assumption) ?_
      simp only [List.setIfInBounds_toArray, List.set_cons_zero, List.set_cons_succ]
      refine held_take (i := 10) (v := undef) rfl (by kernel_rfl) (by kernel_rfl) (by kernel_rfl) (fun _ _ _ h => h) (Or.inr ⟨by kernel_rfl, rfl⟩) (by assumption) ?_
      simp only [List.setIfInBounds_toArray, List.set_cons_zero, List.set_cons_succ]
      refine held_take (i := 11) (v := undef) rfl (by kernel_rfl) (by kernel_rfl) (by kernel_rfl) (fun _ _ _ h => h) (Or.inr ⟨by kernel_rfl, rfl⟩) (by assumption) ?_
      simp only [List.setIfInBounds_toArray, List.set_cons_zero, List.set_cons_succ]
      refine held_take (i := 12) (v := undef) rfl (by kernel_rfl) (by kernel_rfl) (by kernel_rfl) (fun _ _ _ h => h) (Or.inr ⟨by kernel_rfl, rfl⟩) (by assumption) ?_
      simp only [List.setIfInBounds_toArray, List.set_cons_zero, List.set_cons_succ]
      refine held_take (i := 13) (v := undef) rfl (by kernel_rfl) (by kernel_rfl) (by kernel_rfl) (fun _ _ _ h => h) (Or.inr ⟨by kernel_rfl, rfl⟩) (by assumption) ?_
      simp only [List.setIfInBounds_toArray, List.set_cons_zero, List.set_cons_succ]
      refine held_take (i := 14) (v := undef) rfl (by kernel_rfl) (by kernel_rfl) (by kernel_rfl) (fun _ _ _ h => h) (Or.inr ⟨by kernel_rfl, rfl⟩) (by assumption) ?_
      simp only [List.setIfInBounds_toArray, List.set_cons_zero, List.set_cons_succ]
      refine held_take (i := 15) (v := undef) rfl (by kernel_rfl) (by kernel_rfl) (by kernel_rfl) (fun _ _ _ h => h) (Or.inr ⟨by kernel_rfl, rfl⟩) (by assumption) ?_
      simp only [List.setIfInBounds_toArray, List.set_cons_zero, List.set_cons_succ]
      refine held_take (i := 16) (v := undef) rfl (by kernel_rfl) (by kernel_rfl) (by kernel_rfl) (fun _ _ _ h => h) (Or.inr ⟨by kernel_rfl, rfl⟩) (by assumption) ?_
      simp only [List.setIfInBounds_toArray, List.set_cons_zero, List.set_cons_succ]
      refine held_take (i := 17) (v := undef) rfl (by kernel_rfl) (by kernel_rfl) (by kernel_rfl) (fun _ _ _ h => h) (Or.inr ⟨by kernel_rfl, rfl⟩) (by assumption) ?_
      simp only [List.setIfInBounds_toArray, List.set_cons_zero, List.set_cons_succ]
      refine held_take (i := 18) (v := undef) rfl (by kernel_rfl) (by kernel_rfl) (by kernel_rfl) (fun _ _ _ h => h) (Or.inr ⟨by kernel_rfl, rfl⟩) (by assumption) ?_
      simp only [List.setIfInBounds_toArray, List.set_cons_zero, List.set_cons_succ]
      refine held_take (i := 19) (v := undef) rfl (by kernel_rfl) (by kernel_rfl) (by kernel_rfl) (fun _ _ _ h => h) (Or.inr ⟨by kernel_rfl, rfl⟩) (by assumption) ?_
      simp only [List.setIfInBounds_toArray, List.set_cons_zero, List.set_cons_succ]
      refine held_take (i := 20) (v := undef) rfl (by kernel_rfl) (by kernel_rfl) (by kernel_rfl) (fun _ _ _ h => h) (Or.inr ⟨by kernel_rfl, rfl⟩) (by assumption) ?_
      simp only [List.setIfInBounds_toArray, List.set_cons_zero, List.set_cons_succ]
      refine held_take (i := 21) (v := undef) rfl (by kernel_rfl) (by kernel_rfl) (by kernel_rfl) (fun _ _ _ h => h) (Or.inr ⟨by kernel_rfl, rfl⟩) (by assumption) ?_
      simp only [List.setIfInBounds_toArray, List.set_cons_zero, List.set_cons_succ]
      refine held_take (i := 22) (v := undef) rfl (by kernel_rfl) (by kernel_rfl) (by kernel_rfl) (fun _ _ _ h => h) (Or.inr ⟨by kernel_rfl, rfl⟩) (by assumption) ?_
      simp only [List.setIfInBounds_toArray, List.set_cons_zero, List.set_cons_succ]
      refine held_take (i := 23) (v := undef) rfl (by kernel_rfl) (by kernel_rfl) (by kernel_rfl) (fun _ _ _ h => h) (Or.inr ⟨by kernel_rfl, rfl⟩) (by assumption) ?_
      simp only [List.setIfInBounds_toArray, List.set_cons_zero, List.set_cons_succ]
      refine held_take (i := 24) (v := undef) rfl (by kernel_rfl) (by kernel_rfl) (by kernel_rfl) (fun _ _ _ h => h) (Or.inr ⟨by kernel_rfl, rfl⟩) (by assumption) ?_
      simp only [List.setIfInBounds_toArray, List.set_cons_zero, List.set_cons_succ]
      refine held_take (i := 25) (v := undef) rfl (by kernel_rfl) (by kernel_rfl) (by kernel_rfl) (fun _ _ _ h => h) (Or.inr ⟨by kernel_rfl, rfl⟩) (by assumption) ?_
      simp only [List.setIfInBounds_toArray, List.set_cons_zero, List.set_cons_succ]
      refine held_take (i := 26) (v := undef) rfl (by kernel_rfl) (by kernel_rfl) (by kernel_rfl) (fun _ _ _ h => h) (Or.inr ⟨by kernel_rfl, rfl⟩) (by assumption) ?_
      simp only [List.setIfInBounds_toArray, List.set_cons_zero, List.set_cons_succ]
      refine held_take (i := 27) (v := undef) rfl (by kernel_rfl) (by kernel_rfl) (by kernel_rfl) (fun _ _ _ h => h) (Or.inr ⟨by kernel_rfl, rfl⟩) (by assumption) ?_
      simp only [List.setIfInBounds_toArray, List.set_cons_zero, List.set_cons_succ]
      refine held_take (i := 28) (v := undef) rfl (by kernel_rfl) (by kernel_rfl) (by kernel_rfl) (fun _ _ _ h => h) (Or.inr ⟨by kernel_rfl, rfl⟩) (by assumption) ?_
      simp only [List.setIfInBounds_toArray, List.set_cons_zero, List.set_cons_succ]
      refine held_take (i := 29) (v := undef) rfl (by kernel_rfl) (by kernel_rfl) (by kernel_rfl) (fun _ _ _ h => h) (Or.inr ⟨by kernel_rfl, rfl⟩) (by assumption) ?_
      simp only [List.setIfInBounds_toArray, List.set_cons_zero, List.set_cons_succ]
      refine held_take (i := 30) (v := undef) rfl (by kernel_rfl) (by kernel_rfl) (by kernel_rfl) (fun _ _ _ h => h) (Or.inr ⟨by kernel_rfl, rfl⟩) (by assumption) ?_
      simp only [List.setIfInBounds_toArray, List.set_cons_zero, List.set_cons_succ]
      refine held_take (i := 31) (v := ?_) rfl (by kernel_rfl) (by kernel_rfl) (by kernel_rfl) (fun _ _ _ h => h) (Or.inl ⟨by kernel_rfl, ?_⟩) (by assumption) ?_
      rotate_left
      · intro w hSw
        (try dsimp only at hSw)
        go_split_ands
        go_simp
        all_goals with_reducible rfl
      simp only [List.setIfInBounds_toArray, List.set_cons_zero, List.set_cons_succ]
      refine wpAnyH_done (by kernel_rfl) ?_ _
      go_wp2_with fail
      go_ret2
      exact ⟨rfl, hb123⟩
  · have hA0 : decide (A < 0) = false := by simpa using hA
    clear hA
    cases hgp : getP s.held d.n with
    | some pc =>
      replace hgp := Lib.hid hgp
      clear ho hc2
      go_enter Try.func15, Try.ntmps15
      go_wp2_with (first | (go_at_call 18; refine (hh _ hB).mono ?_; rintro e w1 ⟨v, rfl, hv, hb⟩; obtain ⟨av, cv, rfl⟩ := own_slice hv; simp only [Hd.res]; have h1 := h.below hb; have g2 := h1.c2; have g3 := h1.c3) | (go_at_call 29; refine (from_any _ g2).mono ?_; rintro e w2 ⟨rfl, hF, hb2⟩; have h2 := h1.below hb2; have g4 := h2.c4; obtain ⟨D, hv2, m1, m2, m3⟩ := h2.map; simp only [fromV]) | (at_lookup; refine wp_look_yes _ rfl _ _ rfl rfl m1 m2 m3 rfl hn24 hgp.out ?_; intro xv hxv; obtain ⟨xa, xc, rfl⟩ := own_slice hxv))
      have hb12 : Below w.heap.size w w2 := hb.trans (hb2.mono hb.size)
      have hb3 := below_alloc (Below.refl w2.heap.size w2) (.cells #[.bool pc.first, .bool pc.last, .slice xa pc.b.length xc] 75) (Nat.le_refl _)
      have hF3 := (hF.below hb3).below (Below.refl _ _).drew
      have h3 := (h2.below hb3).below (Below.refl _ _).drew
      have hb123 := (hb12.trans (hb3.mono hb12.size)).drew
      have hS3 : _ ∧ _ := ⟨h3.c5, (hb123.cell (p := ⟨g, link, none⟩) hg).trans cg⟩
      have hHeld0 := hS3
      refine wp_region_held_drew (S := fun W => W.cell? ⟨b, 5, none⟩ = some (.slice (some ⟨g, 0, none⟩) s.last.length cl) ∧ W.cell? ⟨g, link, none⟩ = some (.int .i64 x)) (by kernel_rfl) hHeld0 (fun hHeld => ?_)
      refine held_take (i := 0) (v := ?_) rfl (by kernel_rfl) (by kernel_rfl) (by kernel_rfl) (fun _ _ _ h => h) (Or.inl ⟨by kernel_rfl, ?_⟩) (by assumption) ?_
      rotate_left
      · intro w hSw
        (try dsimp only at hSw)
        go_split_ands
        go_simp
        all_goals with_reducible rfl
      simp only [List.setIfInBounds_toArray, List.set_cons_zero, List.set_cons_succ]
      refine held_take (i := 1) (v := ?_) rfl (by kernel_rfl) (by kernel_rfl) (by kernel_rfl) (fun _ _ _ h => h) (Or.inl ⟨by kernel_rfl, ?_⟩) (by assumption) ?_
      rotate_left
      · intro w hSw
        (try dsimp only at hSw)
        go_split_ands
        go_simp
        all_goals with_reducible rfl
      simp only [List.setIfInBounds_toArray, List.set_cons_zero, List.set_cons_succ]
      refine wpAnyH_ready (rs := [2]) (by kernel_rfl) (by simp) ?_
      refine AllReadyH.cons rfl (fun K hK => ?_) AllReadyH.nil
      go_simp
      go_wp2_with (go_at_call 37; refine (hc1.out _ _ _ hF3).mono ?_; rintro e w' ⟨rfl, rfl⟩)
      refine hK.out _ _ ?_ (fun hHeld => ?_)
      · exact hHeld
      clear hK K
      refine held_take (i := 3) (v := ?_) rfl (by kernel_rfl) (by kernel_rfl) (by kernel_rfl) (fun _ _ _ h => h) (Or.inl ⟨by kernel_rfl, ?_⟩) (by assumption) ?_
      rotate_left
      · intro w hSw
        (try dsimp only at hSw)
        go_split_ands
        go_simp
        all_goals with_reducible rfl
      simp only [List.setIfInBounds_toArray, List.set_cons_zero, List.set_cons_succ]
      refine held_take (i := 4) (v := ?_) rfl (by kernel_rfl) (by kernel_rfl) (by kernel_rfl) (fun _ _ _ h => h) (Or.inl ⟨by kernel_rfl, ?_⟩) (by assumption) ?_
      rotate_left
      · intro w hSw
        (try dsimp only at hSw)
        go_split_ands
        go_simp
        all_goals with_reducible rfl
      simp only [List.setIfInBounds_toArray, List.set_cons_zero, List.set_cons_succ]
      refine held_take (i := 5) (v := ?_) rfl (by kernel_rfl) (by kernel_rfl) (by kernel_rfl) (fun _ _ _ h => h) (Or.inl ⟨by kernel_rfl, ?_⟩) (by assumption) ?_
      rotate_left
      · intro w hSw
        (try dsimp only at hSw)
        go_split_ands
        go_simp
        all_goals with_reducible rfl
      simp only [List.setIfInBounds_toArray, List.set_cons_zero, List.set_cons_succ]
      refine held_take (i := 6) (v := ?_) rfl (by kernel_rfl) (by kernel_rfl) (by kernel_rfl) (fun _ _ _ h => h) (Or.inl ⟨by kernel_rfl, ?_⟩) (by assumption) ?_
      rotate_left
      · intro w hSw
        (try dsimp only at hSw)
        go_split_ands
        go_simp
        all_goals with_reducible rfl
      simp only [List.setIfInBounds_toArray, List.set_cons_zero, List.set_cons_succ]
      refine held_take (i := 7) (v := ?_) rfl (by kernel_rfl) (by kernel_rfl) (by kernel_rfl) (fun _ _ _ h => h) (Or.inl ⟨by kernel_rfl, ?_⟩) (by assumption) ?_
      rotate_left
      · intro w hSw
        (try dsimp only at hSw)
        go_split_ands
        go_simp
        all_goals with_reducible rfl
      simp only [List.setIfInBounds_toArray, List.set_cons_zero, List.set_cons_succ]
      refine held_take (i := 8) (v := undef) rfl (by kernel_rfl) (by kernel_rfl) (by kernel_rfl) (fun _ _ _ h => h) (Or.inr ⟨by kernel_rfl, rfl⟩) (by assumption) ?_
      simp only [List.setIfInBounds_toArray, List.set_cons_zero, List.set_cons_succ]
      refine held_take (i := 9) (v := undef) rfl (by kernel_rfl) (by kernel_rfl) (by kernel_rfl) (fun _ _ _ h => h) (Or.inr ⟨by kernel_rfl, rfl⟩) (by assumption) ?_
      simp only [List.setIfInBounds_toArray, List.set_cons_zero, List.set_cons_succ]
      refine held_take (i := 10) (v := undef) rfl (by kernel_rfl) (by kernel_rfl) (by kernel_rfl) (fun _ _ _ h => h) (Or.inr ⟨by kernel_rfl, rfl⟩) (by assumption) ?_
      simp only [List.setIfInBounds_toArray, List.set_cons_zero, List.set_cons_succ]
      refine held_take (i := 11) (v := undef) rfl (by kernel_rfl) (by kernel_rfl) (by kernel_rfl) (fun _ _ _ h => h) (Or.inr ⟨by kernel_rfl, rfl⟩) (by assumption) ?_
      simp only [List.setIfInBounds_toArray, List.set_cons_zero, List.set_cons_succ]
      refine held_take (i := 12) (v := undef) rfl (by kernel_rfl) (by kernel_rfl) (by kernel_rfl) (fun _ _ _ h => h) (Or.inr ⟨by kernel_rfl, rfl⟩) (by assumption) ?_
      simp only [List.setIfInBounds_toArray, List.set_cons_zero, List.set_cons_succ]
      refine held_take (i := 13) (v := undef) rfl (by kernel_rfl) (by kernel_rfl) (by kernel_rfl) (fun _ _ _ h => h) (Or.inr ⟨by kernel_rfl, rfl⟩) (by assumption) ?_
      simp only [List.setIfInBounds_toArray, List.set_cons_zero, List.set_cons_succ]
      refine held_take (i := 14) (v := undef) rfl (by kernel_rfl) (by kernel_rfl) (by kernel_rfl) (fun _ _ _ h => h) (Or.inr ⟨by kernel_rfl, rfl⟩) (by assumption) ?_
      simp only [List.setIfInBounds_toArray, List.set_cons_zero, List.set_cons_succ]
      refine held_take (i := 15) (v := undef) rfl (by kernel_rfl) (by kernel_rfl) (by kernel_rfl) (fun _ _ _ h => h) (Or.inr ⟨by kernel_rfl, rfl⟩) (by assumption) ?_
      simp only [List.setIfInBounds_toArray, List.set_cons_zero, List.set_cons_succ]
      refine held_take (i := 16) (v := undef) rfl (by kernel_rfl) (by kernel_rfl) (by kernel_rfl) (fun _ _ _ h => h) (Or.inr ⟨by kernel_rfl, rfl⟩) (by assumption) ?_
      simp only [List.setIfInBounds_toArray, List.set_cons_zero, List.set_cons_succ]
      refine held_take (i := 17) (v := undef) rfl (by kernel_rfl) (by kernel_rfl) (by kernel_rfl) (fun _ _ _ h => h) (Or.inr ⟨by kernel_rfl, rfl⟩) (by assumption) ?_
      simp only [List.setIfInBounds_toArray, List.set_cons_zero, List.set_cons_succ]
      refine held_take (i := 18) (v := undef) rfl (by kernel_rfl) (by kernel_rfl) (by kernel_rfl) (fun _ _ _ h => h) (Or.inr ⟨by kernel_rfl, rfl⟩) (by assumption) ?_
      simp only [List.setIfInBounds_toArray, List.set_cons_zero, List.set_cons_succ]
      refine held_take (i := 19) (v := undef) rfl (by kernel_rfl) (by kernel_rfl) (by kernel_rfl) (fun _ _ _ h => h) (Or.inr ⟨by kernel_rfl, rfl⟩) (by assumption) ?_
      simp only [List.setIfInBounds_toArray, List.set_cons_zero, List.set_cons_succ]
      refine held_take (i := 20) (v := undef) rfl (by kernel_rfl) (by kernel_rfl) (by kernel_rfl) (fun _ _ _ h => h) (Or.inr ⟨by kernel_rfl, rfl⟩) (by assumption) ?_
      simp only [List.setIfInBounds_toArray, List.set_cons_zero, List.set_cons_succ]
      refine held_take (i := 21) (v := undef) rfl (by kernel_rfl) (by kernel_rfl) (by kernel_rfl) (fun _ _ _ h => h) (Or.inr ⟨by kernel_rfl, rfl⟩) (by assumption) ?_
      simp only [List.setIfInBounds_toArray, List.set_cons_zero, List.set_cons_succ]
      refine held_take (i := 22) (v := undef) rfl (by kernel_rfl) (by kernel_rfl) (by kernel_rfl) (fun _ _ _ h => h) (Or.inr ⟨by kernel_rfl, rfl⟩) (by assumption) ?_
      simp only [List.setIfInBounds_toArray, List.set_cons_zero, List.set_cons_succ]
      refine held_take (i := 23) (v := undef) rfl (by kernel_rfl) (by kernel_rfl) (by kernel_rfl) (fun _ _ _ h => h) (Or.inr ⟨by kernel_rfl, rfl⟩) (by assumption) ?_
      simp only [List.setIfInBounds_toArray, List.set_cons_zero, List.set_cons_succ]
      refine held_take (i := 24) (v := undef) rfl (by kernel_rfl) (by kernel_rfl) (by kernel_rfl) (fun _ _ _ h => h) (Or.inr ⟨by kernel_rfl, rfl⟩) (by assumption) ?_
      simp only [List.setIfInBounds_toArray, List.set_cons_zero, List.set_cons_succ]
      refine held_take (i := 25) (v := undef) rfl (by kernel_rfl) (by kernel_rfl) (by kernel_rfl) (fun _ _ _ h => h) (Or.inr ⟨by kernel_rfl, rfl⟩) (by assumption) ?_
      simp only [List.setIfInBounds_toArray, List.set_cons_zero, List.set_cons_succ]
      refine held_take (i := 26) (v := undef) rfl (by kernel_rfl) (by kernel_rfl) (by kernel_rfl) (fun _ _ _ h => h) (Or.inr ⟨by kernel_rfl, rfl⟩) (by assumption) ?_
      simp only [List.setIfInBounds_toArray, List.set_cons_zero, List.set_cons_succ]
      refine held_take (i := 27) (v := undef) rfl (by kernel_rfl) (by kernel_rfl) (by kernel_rfl) (fun _ _ _ h => h) (Or.inr ⟨by kernel_rfl, rfl⟩) (by assumption) ?_
      simp only [List.setIfInBounds_toArray, List.set_cons_zero, List.set_cons_succ]
      refine held_take (i := 28) (v := undef) rfl (by kernel_rfl) (by kernel_rfl) (by kernel_rfl) (fun _ _ _ h => h) (Or.inr ⟨by kernel_rfl, rfl⟩) (by assumption) ?_
      simp only [List.setIfInBounds_toArray, List.set_cons_zero, List.set_cons_succ]
      refine held_take (i := 29) (v := undef) rfl (by kernel_rfl) (by kernel_rfl) (by kernel_rfl) (fun _ _ _ h => h) (Or.inr ⟨by kernel_rfl, rfl⟩) (by assumption) ?_
      simp only [List.setIfInBounds_toArray, List.set_cons_zero, List.set_cons_succ]
      refine held_take (i := 30) (v := undef) rfl (by kernel_rfl) (by kernel_rfl) (by kernel_rfl) (fun _ _ _ h => h) (Or.inr ⟨by kernel_rfl, rfl⟩) (by assumption) ?_
      simp only [List.setIfInBounds_toArray, List.set_cons_zero, List.set_cons_succ]
      refine held_take (i := 31) (v := ?_) rfl (by kernel_rfl) (by kernel_rfl) (by kernel_rfl) (fun _ _ _ h => h) (Or.inl ⟨by kernel_rfl, ?_⟩) (by assumption) ?_
      rotate_left
      · intro w hSw
        (try dsimp only at hSw)
        go_split_ands
        go_simp
        all_goals with_reducible rfl
      simp only [List.setIfInBounds_toArray, List.set_cons_zero, List.set_cons_succ]
      refine wpAnyH_done (by kernel_rfl) ?_ _
      go_wp2_with fail
      go_ret2
      exact ⟨rfl, hb123⟩
    | none =>
      have hx0 : 0 ≤ x ∧ A ≤ aheadI (rgN s.short) s.next x.toNat := by
        rw [hgp, hA0] at ho
        simp only [Option.isSome_none, Bool.false_or, Bool.or_false, Bool.and_eq_true, decide_eq_true_eq] at ho
        exact ho
      obtain ⟨y, rfl⟩ := Int.eq_ofNat_of_zero_le hx0.1
      have hx1 : A ≤ aheadI (rgN s.short) s.next y := hx0.2
      have hy : y < rgN s.short := by omega
      replace hc2 := fun p q W hF => hc2 p q W hF y hy
      generalize aheadI (rgN s.short) s.next y = A2 at hc2 hx1
      replace hc2 := Lib.hid hc2
      replace hgp := Lib.hid hgp
      clear ho hx0 hxb
      generalize hyx : ((y : Nat) : Int) = x at cg hc2
      have hx0 : 0 ≤ x := by omega
      clear hyx
      go_enter Try.func15, Try.ntmps15
      go_wp2_with (first | (go_at_call 18; refine (hh _ hB).mono ?_; rintro e w1 ⟨v, rfl, hv, hb⟩; obtain ⟨av, cv, rfl⟩ := own_slice hv; simp only [Hd.res]; have h1 := h.below hb; have g2 := h1.c2; have g3 := h1.c3) | (go_at_call 29; refine (from_any _ g2).mono ?_; rintro e w2 ⟨rfl, hF, hb2⟩; have h2 := h1.below hb2; have g4 := h2.c4; obtain ⟨D, hv2, m1, m2, m3⟩ := h2.map; simp only [fromV]) | (at_lookup; refine wp_look_no _ rfl _ _ rfl rfl m1 m2 m3 rfl hn24 hgp.out ?_))
      have hb12 : Below w.heap.size w w2 := hb.trans (hb2.mono hb.size)
      have hb3 := below_alloc (Below.refl w2.heap.size w2) (.cells #[.bool false, .bool false, .slice none 0 0] 75) (Nat.le_refl _)
      have hF3 := (hF.below hb3).below (Below.refl _ _).drew
      have h3 := (h2.below hb3).below (Below.refl _ _).drew
      have hb123 := (hb12.trans (hb3.mono hb12.size)).drew
      have hS3 : _ ∧ _ := ⟨h3.c5, (hb123.cell (p := ⟨g, link, none⟩) hg).trans cg⟩
      have hHeld0 := hS3
      refine wp_region_held_drew (S := fun W => W.cell? ⟨b, 5, none⟩ = some (.slice (some ⟨g, 0, none⟩) s.last.length cl) ∧ W.cell? ⟨g, link, none⟩ = some (.int .i64 x)) (by kernel_rfl) hHeld0 (fun hHeld => ?_)
      refine held_take (i := 0) (v := ?_) rfl (by kernel_rfl) (by kernel_rfl) (by kernel_rfl) (fun _ _ _ h => h) (Or.inl ⟨by kernel_rfl, ?_⟩) (by assumption) ?_
      rotate_left
      · intro w hSw
        (try dsimp only at hSw)
        go_split_ands
        go_simp
        all_goals with_reducible rfl
      simp only [List.setIfInBounds_toArray, List.set_cons_zero, List.set_cons_succ]
      refine held_take (i := 1) (v := ?_) rfl (by kernel_rfl) (by kernel_rfl) (by kernel_rfl) (fun _ _ _ h => h) (Or.inl ⟨by kernel_rfl, ?_⟩) (by assumption) ?_
      rotate_left
      · intro w hSw
        (try dsimp only at hSw)
        go_split_ands
        go_simp
        all_goals with_reducible rfl
      simp only [List.setIfInBounds_toArray, List.set_cons_zero, List.set_cons_succ]
      refine wpAnyH_ready (rs := [2]) (by kernel_rfl) (by simp) ?_
      refine AllReadyH.cons rfl (fun K hK => ?_) AllReadyH.nil
      go_simp
      go_wp2_with (go_at_call 37; refine (hc1.out _ _ _ hF3).mono ?_; rintro e w' ⟨rfl, rfl⟩)
      refine hK.out _ _ ?_ (fun hHeld => ?_)
      · exact hHeld
      clear hK K
      refine held_take (i := 3) (v := ?_) rfl (by kernel_rfl) (by kernel_rfl) (by kernel_rfl) (fun _ _ _ h => h) (Or.inl ⟨by kernel_rfl, ?_⟩) (by assumption) ?_
      rotate_left
      · intro w hSw
        (try dsimp only at hSw)
        go_split_ands
        go_simp
        all_goals with_reducible rfl
      simp only [List.setIfInBounds_toArray, List.set_cons_zero, List.set_cons_succ]
      refine held_take (i := 4) (v := ?_) rfl (by kernel_rfl) (by kernel_rfl) (by kernel_rfl) (fun _ _ _ h => h) (Or.inl ⟨by kernel_rfl, ?_⟩) (by assumption) ?_
      rotate_left
      · intro w hSw
        (try dsimp only at hSw)
        go_split_ands
        go_simp
        all_goals with_reducible rfl
      simp only [List.setIfInBounds_toArray, List.set_cons_zero, List.set_cons_succ]
      refine held_take (i := 5) (v := ?_) rfl (by kernel_rfl) (by kernel_rfl) (by kernel_rfl) (fun _ _ _ h => h) (Or.inl ⟨by kernel_rfl, ?_⟩) (by assumption) ?_
      rotate_left
      · intro w hSw
        (try dsimp only at hSw)
        go_split_ands
        go_simp
        all_goals with_reducible rfl
      simp only [List.setIfInBounds_toArray, List.set_cons_zero, List.set_cons_succ]
      refine held_take (i := 6) (v := ?_) rfl (by kernel_rfl) (by kernel_rfl) (by kernel_rfl) (fun _ _ _ h => h) (Or.inl ⟨by kernel_rfl, ?_⟩) (by assumption) ?_
      rotate_left
      · intro w hSw
        (try dsimp only at hSw)
        go_split_ands
        go_simp
        all_goals with_reducible rfl
      simp only [List.setIfInBounds_toArray, List.set_cons_zero, List.set_cons_succ]
      refine held_take (i := 7) (v := ?_) rfl (by kernel_rfl) (by kernel_rfl) (by kernel_rfl) (fun _ _ _ h => h) (Or.inl ⟨by kernel_rfl, ?_⟩) (by assumption) ?_
      rotate_left
      · intro w hSw
        (try dsimp only at hSw)
        go_split_ands
        go_simp
        all_goals with_reducible rfl
      simp only [List.setIfInBounds_toArray, List.set_cons_zero, List.set_cons_succ]
      refine held_take (i := 8) (v := ?_) rfl (by kernel_rfl) (by kernel_rfl) (by kernel_rfl) (fun _ _ _ h => h) (Or.inl ⟨by kernel_rfl, ?_⟩) (by assumption) ?_
      rotate_left
      · intro w hSw
        (try dsimp only at hSw)
        go_split_ands
        go_simp
        all_goals with_reducible rfl
      simp only [List.setIfInBounds_toArray, List.set_cons_zero, List.set_cons_succ]
      refine held_take (i := 9) (v := ?_) rfl (by kernel_rfl) (by kernel_rfl) (by kernel_rfl) (fun _ _ _ h => h) (Or.inl ⟨by kernel_rfl, ?_⟩) (by assumption) ?_
      rotate_left
      · intro w hSw
        (try dsimp only at hSw)
        go_split_ands
        go_simp
        all_goals with_reducible rfl
      simp only [List.setIfInBounds_toArray, List.set_cons_zero, List.set_cons_succ]
      refine held_take (i := 10) (v := ?_) rfl (by kernel_rfl) (by kernel_rfl) (by kernel_rfl) (fun _ _ _ h => h) (Or.inl ⟨by kernel_rfl, ?_⟩) (by assumption) ?_
      rotate_left
      · intro w hSw
        (try dsimp only at hSw)
        go_split_ands
        go_simp
        all_goals with_reducible rfl
      simp only [List.setIfInBounds_toArray, List.set_cons_zero, List.set_cons_succ]
      refine held_take (i := 11) (v := ?_) rfl (by kernel_rfl) (by kernel_rfl) (by kernel_rfl) (fun _ _ _ h => h) (Or.inl ⟨by kernel_rfl, ?_⟩) (by assumption) ?_
      rotate_left
      · intro w hSw
        (try dsimp only at hSw)
        go_split_ands
        go_simp
        all_goals with_reducible rfl
      simp only [List.setIfInBounds_toArray, List.set_cons_zero, List.set_cons_succ]
      refine held_take (i := 12) (v := ?_) rfl (by kernel_rfl) (by kernel_rfl) (by kernel_rfl) (fun _ _ _ h => h) (Or.inl ⟨by kernel_rfl, ?_⟩) (by assumption) ?_
      rotate_left
      · intro w hSw
        (try dsimp only at hSw)
        go_split_ands
        go_simp
        all_goals with_reducible rfl
      simp only [List.setIfInBounds_toArray, List.set_cons_zero, List.set_cons_succ]
      refine held_take (i := 13) (v := ?_) rfl (by kernel_rfl) (by kernel_rfl) (by kernel_rfl) (fun _ _ _ h => h) (Or.inl ⟨by kernel_rfl, ?_⟩) (by assumption) ?_
      rotate_left
      · intro w hSw
        (try dsimp only at hSw)
        go_split_ands
        go_simp
        all_goals with_reducible rfl
      simp only [List.setIfInBounds_toArray, List.set_cons_zero, List.set_cons_succ]
      refine held_take (i := 14) (v := ?_) rfl (by kernel_rfl) (by kernel_rfl) (by kernel_rfl) (fun _ _ _ h => h) (Or.inl ⟨by kernel_rfl, ?_⟩) (by assumption) ?_
      rotate_left
      · intro w hSw
        (try dsimp only at hSw)
        go_split_ands
        go_simp
        all_goals with_reducible rfl
      simp only [List.setIfInBounds_toArray, List.set_cons_zero, List.set_cons_succ]
      refine held_take (i := 15) (v := ?_) rfl (by kernel_rfl) (by kernel_rfl) (by kernel_rfl) (fun _ _ _ h => h) (Or.inl ⟨by kernel_rfl, ?_⟩) (by assumption) ?_
      rotate_left
      · intro w hSw
        (try dsimp only at hSw)
        go_split_ands
        go_simp
        all_goals with_reducible rfl
      simp only [List.setIfInBounds_toArray, List.set_cons_zero, List.set_cons_succ]
      refine held_take (i := 16) (v := ?_) rfl (by kernel_rfl) (by kernel_rfl) (by kernel_rfl) (fun _ _ _ h => h) (Or.inl ⟨by kernel_rfl, ?_⟩) (by assumption) ?_
      rotate_left
      · intro w hSw
        (try dsimp only at hSw)
        go_split_ands
        go_simp
        all_goals with_reducible rfl
      simp only [List.setIfInBounds_toArray, List.set_cons_zero, List.set_cons_succ]
      refine held_take (i := 17) (v := ?_) rfl (by kernel_rfl) (by kernel_rfl) (by kernel_rfl) (fun _ _ _ h => h) (Or.inl ⟨by kernel_rfl, ?_⟩) (by assumption) ?_
      rotate_left
      · intro w hSw
        (try dsimp only at hSw)
        go_split_ands
        go_simp
        all_goals with_reducible rfl
      simp only [List.setIfInBounds_toArray, List.set_cons_zero, List.set_cons_succ]
      refine held_take (i := 18) (v := ?_) rfl (by kernel_rfl) (by kernel_rfl) (by kernel_rfl) (fun _ _ _ h => h) (Or.inl ⟨by kernel_rfl, ?_⟩) (by assumption) ?_
      rotate_left
      · intro w hSw
        (try dsimp only at hSw)
        go_split_ands
        go_simp
        all_goals with_reducible rfl
      simp only [List.setIfInBounds_toArray, List.set_cons_zero, List.set_cons_succ]
      refine held_take (i := 20) (v := ?_) rfl (by kernel_rfl) (by kernel_rfl) (by kernel_rfl) (fun _ _ _ h => h) (Or.inl ⟨by kernel_rfl, ?_⟩) (by assumption) ?_
      rotate_left
      · intro w hSw
        (try dsimp only at hSw)
        go_split_ands
        go_simp
        all_goals with_reducible rfl
      simp only [List.setIfInBounds_toArray, List.set_cons_zero, List.set_cons_succ]
      refine held_take (i := 21) (v := ?_) rfl (by kernel_rfl) (by kernel_rfl) (by kernel_rfl) (fun _ _ _ h => h) (Or.inl ⟨by kernel_rfl, ?_⟩) (by assumption) ?_
      rotate_left
      · intro w hSw
        (try dsimp only at hSw)
        go_split_ands
        go_simp
        all_goals with_reducible rfl
      simp only [List.setIfInBounds_toArray, List.set_cons_zero, List.set_cons_succ]
      refine held_take (i := 22) (v := ?_) rfl (by kernel_rfl) (by kernel_rfl) (by kernel_rfl) (fun _ _ _ h => h) (Or.inl ⟨by kernel_rfl, ?_⟩) (by assumption) ?_
      rotate_left
      · intro w hSw
        (try dsimp only at hSw)
        go_split_ands
        go_simp
        all_goals with_reducible rfl
      simp only [List.setIfInBounds_toArray, List.set_cons_zero, List.set_cons_succ]
      refine held_take (i := 23) (v := ?_) rfl (by kernel_rfl) (by kernel_rfl) (by kernel_rfl) (fun _ _ _ h => h) (Or.inl ⟨by kernel_rfl, ?_⟩) (by assumption) ?_
      rotate_left
      · intro w hSw
        (try dsimp only at hSw)
        go_split_ands
        go_simp
        all_goals with_reducible rfl
      simp only [List.setIfInBounds_toArray, List.set_cons_zero, List.set_cons_succ]
      refine held_take (i := 24) (v := ?_) rfl (by kernel_rfl) (by kernel_rfl) (by kernel_rfl) (fun _ _ _ h => h) (Or.inl ⟨by kernel_rfl, ?_⟩) (by assumption) ?_
      rotate_left
      · intro w hSw
        (try dsimp only at hSw)
        go_split_ands
        go_simp
        all_goals with_reducible rfl
      simp only [List.setIfInBounds_toArray, List.set_cons_zero, List.set_cons_succ]
      refine held_take (i := 25) (v := ?_) rfl (by kernel_rfl) (by kernel_rfl) (by kernel_rfl) (fun _ _ _ h => h) (Or.inl ⟨by kernel_rfl, ?_⟩) (by assumption) ?_
      rotate_left
      · intro w hSw
        (try dsimp only at hSw)
        go_split_ands
        go_simp
        all_goals with_reducible rfl
      simp only [List.setIfInBounds_toArray, List.set_cons_zero, List.set_cons_succ]
      refine held_take (i := 26) (v := ?_) rfl (by kernel_rfl) (by kernel_rfl) (by kernel_rfl) (fun _ _ _ h => h) (Or.inl ⟨by kernel_rfl, ?_⟩) (by assumption) ?_
      rotate_left
      · intro w hSw
        (try dsimp only at hSw)
        go_split_ands
        go_simp
        all_goals with_reducible rfl
      simp only [List.setIfInBounds_toArray, List.set_cons_zero, List.set_cons_succ]
      refine held_take (i := 27) (v := ?_) rfl (by kernel_rfl) (by kernel_rfl) (by kernel_rfl) (fun _ _ _ h => h) (Or.inl ⟨by kernel_rfl, ?_⟩) (by assumption) ?_
      rotate_left
      · intro w hSw
        (try dsimp only at hSw)
        go_split_ands
        go_simp
        all_goals with_reducible rfl
      simp only [List.setIfInBounds_toArray, List.set_cons_zero, List.set_cons_succ]
      refine wpAnyH_ready (rs := [19]) (by kernel_rfl) (by simp) ?_
      refine AllReadyH.cons rfl (fun K hK => ?_) AllReadyH.nil
      go_simp
      go_wp2_with (go_at_call 37; refine (hc1.out _ _ _ hF3).mono ?_; rintro e w' ⟨rfl, rfl⟩)
      refine hK.out _ _ ?_ (fun hHeld => ?_)
      · exact hHeld
      clear hK K
      refine wpAnyH_ready (rs := [28]) (by kernel_rfl) (by simp) ?_
      refine AllReadyH.cons rfl (fun K hK => ?_) AllReadyH.nil
      go_simp
      go_wp2_with (go_at_call 37; refine (hc2.out _ _ _ hF3).mono ?_; rintro e w' ⟨rfl, rfl⟩)
      refine hK.out _ _ ?_ (fun hHeld => ?_)
      · exact hHeld
      clear hK K
      refine held_take (i := 29) (v := ?_) rfl (by kernel_rfl) (by kernel_rfl) (by kernel_rfl) (fun _ _ _ h => h) (Or.inl ⟨by kernel_rfl, ?_⟩) (by assumption) ?_
      rotate_left
      · intro w hSw
        (try dsimp only at hSw)
        go_split_ands
        go_simp
        all_goals with_reducible rfl
      simp only [List.setIfInBounds_toArray, List.set_cons_zero, List.set_cons_succ]
      refine held_take (i := 30) (v := ?_) rfl (by kernel_rfl) (by kernel_rfl) (by kernel_rfl) (fun _ _ _ h => h) (Or.inl ⟨by kernel_rfl, ?_⟩) (by assumption) ?_
      rotate_left
      · intro w hSw
        (try dsimp only at hSw)
        go_split_ands
        go_simp
        all_goals with_reducible rfl
      simp only [List.setIfInBounds_toArray, List.set_cons_zero, List.set_cons_succ]
      refine held_take (i := 31) (v := ?_) rfl (by kernel_rfl) (by kernel_rfl) (by kernel_rfl) (fun _ _ _ h => h) (Or.inl ⟨by kernel_rfl, ?_⟩) (by assumption) ?_
      rotate_left
      · intro w hSw
        (try dsimp only at hSw)
        go_split_ands
        go_simp
        all_goals with_reducible rfl
      simp only [List.setIfInBounds_toArray, List.set_cons_zero, List.set_cons_succ]
      refine wpAnyH_done (by kernel_rfl) ?_ _
      go_wp2_with fail
      go_ret2
      exact ⟨rfl, hb123⟩
set_option maxRecDepth 100000 in
set_option maxHeartbeats 4000000 in
theorem add_ok {w : World} {B b bm : Nat} {vl : Value} {s : JS} {a : Option Addr} {n c : Nat} {l : List UInt8} (link : Nat) (h : Jo w B b bm vl s) (hk : Ok s) (h64 : s.held.length ≤ 64) (hB : Bts w a n c l) (hn : l.length ≤ 100000) (hl : link < s.last.length) (he : (headP l s.short).err = 0) (ho : oldP s link (headP l s.short).n = false) :
    Calls Try.prog 15 #[.pointer (some ⟨b, 0, none⟩), .int .i64 (link : Nat), .slice a n c] w fun e w' => ∃ v L t, e = .returned (.tuple #[v, .int .i64 0]) ∧
      Goes (putP s link (headP l s.short).n ⟨(headP l s.short).first, (headP l s.short).last, (headP l s.short).body⟩) L t ∧ Jo w' B b bm vl t ∧ Fr w' w.heap.size v L ∧ ButOf (JFoot b bm vl) w w' := by
  have c0 := h.c0
  have c2 := h.c2
  have c5 := h.c5
  obtain ⟨g, hg, ⟨cl, rfl⟩, cg⟩ := row_at h.row hl
  have hlI : (link : Int) < (s.last.length : Int) := by omega
  have hl0 : (0 : Int) ≤ (link : Int) := by omega
  have hh := fun W hW => mhead_any (w := W) (a := a) (n := n) (c := c) (l := l) s.short hW
  have hnR := headP_lt he
  have hR := rgN_two s.short
  have hnx := h.next
  have hxb := h.lst (s.last.getD link 0) (by rw [List.getD_eq_getElem?_getD, List.getElem?_eq_getElem hl]; exact List.getElem_mem hl)
  have hbl := Nat.le_trans (headP_len (l := l) (short := s.short)) hn
  generalize headP l s.short = d at *
  have heI : (((d.err : Nat) : Int) != 0) = false := by rw [he]; rfl
  have hn24 : d.n < 16777216 := by omega
  have hfew : s.held.length + 1 ≤ 100 := by omega
  unfold oldP at ho
  simp only [Bool.or_eq_false_iff, Bool.and_eq_false_iff, decide_eq_false_iff_not] at ho
  obtain ⟨⟨hA, hgp0⟩, hlast⟩ := ho
  replace hgp0 : getP s.held d.n = none := by cases hc : getP s.held d.n with | none => rfl | some _ => rw [hc] at hgp0; cases hgp0
  have hgp := Lib.hid hgp0
  have hk0 := hk.put (link := link) (p := ⟨d.first, d.last, d.body⟩) hnR (by omega) h64 hbl
  have hc1 := fun p q W (hF : From W p q (rgN s.short) s.next) => fromc_any hF hR hnx hnR
  have hcl2 := fun p q W (hF : From W p q (rgN s.short) s.next) (y : Nat) (hy : y < rgN s.short) => fromc_any hF hR hnx hy
  generalize aheadI (rgN s.short) s.next d.n = A at hc1 hA hlast
  have hA0 : decide (A < 0) = false := by simpa using hA
  clear hA
  replace hc1 := Lib.hid hc1
  replace hgp0 := Lib.hid hgp0
  replace hk0 := Lib.hid hk0
  generalize s.last.getD link 0 = x at *
  by_cases hx : 0 ≤ x
  · obtain ⟨y, rfl⟩ := Int.eq_ofNat_of_zero_le hx
    have hx1 : ¬ A ≤ aheadI (rgN s.short) s.next y := by
      rcases hlast with e | e
      · exact absurd hx e
      · exact e
    have hy : y < rgN s.short := by omega
    replace hcl2 := fun p q W hF => hcl2 p q W hF y hy
    generalize aheadI (rgN s.short) s.next y = A2 at hcl2 hx1
    have hx2 : decide (A ≤ A2) = false := by simpa using hx1
    have hc2 := Lib.hid hcl2
    clear hxb hlast hx1
    generalize hyx : ((y : Nat) : Int) = x at cg hc2 hcl2 hx
    clear hyx
    go_enter Try.func15, Try.ntmps15
    go_wp2_with (first | (go_at_call 18; refine (hh _ hB).mono ?_; rintro e w1 ⟨v, rfl, hv, hb⟩; obtain ⟨av, cv, rfl⟩ := own_slice hv; simp only [Hd.res]; have h1 := h.below hb; have g2 := h1.c2; have g3 := h1.c3) | (go_at_call 29; refine (from_any _ g2).mono ?_; rintro e w2 ⟨rfl, hF, hb2⟩; have h2 := h1.below hb2; have g4 := h2.c4; obtain ⟨D, hv2, m1, m2, m3⟩ := h2.map; simp only [fromV]) | (at_lookup; refine wp_look_no _ rfl _ _ rfl rfl m1 m2 m3 rfl hn24 hgp.out ?_))
    have hb12 : Below w.heap.size w w2 := hb.trans (hb2.mono hb.size)
    have hb3 := below_alloc (Below.refl w2.heap.size w2) (.cells #[.bool false, .bool false, .slice none 0 0] 75) (Nat.le_refl _)
    have hF3 := (hF.below hb3).below (Below.refl _ _).drew
    have h3 := (h2.below hb3).below (Below.refl _ _).drew
    have hb123 := (hb12.trans (hb3.mono hb12.size)).drew
    have hS3 : _ ∧ _ := ⟨h3.c5, (hb123.cell (p := ⟨g, link, none⟩) hg).trans cg⟩
    have hHeld0 := hS3
    refine wp_region_held_drew (S := fun W => W.cell? ⟨b, 5, none⟩ = some (.slice (some ⟨g, 0, none⟩) s.last.length cl) ∧ W.cell? ⟨g, link, none⟩ = some (.int .i64 x)) (by kernel_rfl) hHeld0 (fun hHeld => ?_)
    refine held_take (i := 0) (v := ?_) rfl (by kernel_rfl) (by kernel_rfl) (by kernel_rfl) (fun _ _ _ h => h) (Or.inl ⟨by kernel_rfl, ?_⟩) (by assumption) ?_
    rotate_left
    · intro w hSw
      (try dsimp only at hSw)
      go_split_ands
      go_simp
      all_goals with_reducible rfl
    simp only [List.setIfInBounds_toArray, List.set_cons_zero, List.set_cons_succ]
    refine held_take (i := 1) (v := ?_) rfl (by kernel_rfl) (by kernel_rfl) (by kernel_rfl) (fun _ _ _ h => h) (Or.inl ⟨by kernel_rfl, ?_⟩) (by assumption) ?_
    rotate_left
    · intro w hSw
      (try dsimp only at hSw)
      go_split_ands
      go_simp
      all_goals with_reducible rfl
    simp only [List.setIfInBounds_toArray, List.set_cons_zero, List.set_cons_succ]
    refine wpAnyH_ready (rs := [2]) (by kernel_rfl) (by simp) ?_
    refine AllReadyH.cons rfl (fun K hK => ?_) AllReadyH.nil
    go_simp
    go_wp2_with (go_at_call 37; refine (hc1.out _ _ _ hF3).mono ?_; rintro e w' ⟨rfl, rfl⟩)
    refine hK.out _ _ ?_ (fun hHeld => ?_)
    · exact hHeld
    clear hK K
    refine held_take (i := 3) (v := ?_) rfl (by kernel_rfl) (by kernel_rfl) (by kernel_rfl) (fun _ _ _ h => h) (Or.inl ⟨by kernel_rfl, ?_⟩) (by assumption) ?_
    rotate_left
    · intro w hSw
      (try dsimp only at hSw)
      go_split_ands
      go_simp
      all_goals with_reducible rfl
    simp only [List.setIfInBounds_toArray, List.set_cons_zero, List.set_cons_succ]
    refine held_take (i := 4) (v := ?_) rfl (by kernel_rfl) (by kernel_rfl) (by kernel_rfl) (fun _ _ _ h => h) (Or.inl ⟨by kernel_rfl, ?_⟩) (by assumption) ?_
    rotate_left
    · intro w hSw
      (try dsimp only at hSw)
      go_split_ands
      go_simp
      all_goals with_reducible rfl
    simp only [List.setIfInBounds_toArray, List.set_cons_zero, List.set_cons_succ]
    refine held_take (i := 5) (v := ?_) rfl (by kernel_rfl) (by kernel_rfl) (by kernel_rfl) (fun _ _ _ h => h) (Or.inl ⟨by kernel_rfl, ?_⟩) (by assumption) ?_
    rotate_left
    · intro w hSw
      (try dsimp only at hSw)
      go_split_ands
      go_simp
      all_goals with_reducible rfl
    simp only [List.setIfInBounds_toArray, List.set_cons_zero, List.set_cons_succ]
    refine held_take (i := 6) (v := ?_) rfl (by kernel_rfl) (by kernel_rfl) (by kernel_rfl) (fun _ _ _ h => h) (Or.inl ⟨by kernel_rfl, ?_⟩) (by assumption) ?_
    rotate_left
    · intro w hSw
      (try dsimp only at hSw)
      go_split_ands
      go_simp
      all_goals with_reducible rfl
    simp only [List.setIfInBounds_toArray, List.set_cons_zero, List.set_cons_succ]
    refine held_take (i := 7) (v := ?_) rfl (by kernel_rfl) (by kernel_rfl) (by kernel_rfl) (fun _ _ _ h => h) (Or.inl ⟨by kernel_rfl, ?_⟩) (by assumption) ?_
    rotate_left
    · intro w hSw
      (try dsimp only at hSw)
      go_split_ands
      go_simp
      all_goals with_reducible rfl
    simp only [List.setIfInBounds_toArray, List.set_cons_zero, List.set_cons_succ]
    refine held_take (i := 8) (v := ?_) rfl (by kernel_rfl) (by kernel_rfl) (by kernel_rfl) (fun _ _ _ h => h) (Or.inl ⟨by kernel_rfl, ?_⟩) (by assumption) ?_
    rotate_left
    · intro w hSw
      (try dsimp only at hSw)
      go_split_ands
      go_simp
      all_goals with_reducible rfl
    simp only [List.setIfInBounds_toArray, List.set_cons_zero, List.set_cons_succ]
    refine held_take (i := 9) (v := ?_) rfl (by kernel_rfl) (by kernel_rfl) (by kernel_rfl) (fun _ _ _ h => h) (Or.inl ⟨by kernel_rfl, ?_⟩) (by assumption) ?_
    rotate_left
    · intro w hSw
      (try dsimp only at hSw)
      go_split_ands
      go_simp
      all_goals with_reducible rfl
    simp only [List.setIfInBounds_toArray, List.set_cons_zero, List.set_cons_succ]
    refine held_take (i := 10) (v := ?_) rfl (by kernel_rfl) (by kernel_rfl) (by kernel_rfl) (fun _ _ _ h => h) (Or.inl ⟨by kernel_rfl, ?_⟩) (by assumption) ?_
    rotate_left
    · intro w hSw
      (try dsimp only at hSw)
      go_split_ands
      go_simp
      all_goals with_reducible rfl
    simp only [List.setIfInBounds_toArray, List.set_cons_zero, List.set_cons_succ]
    refine held_take (i := 11) (v := ?_) rfl (by kernel_rfl) (by kernel_rfl) (by kernel_rfl) (fun _ _ _ h => h) (Or.inl ⟨by kernel_rfl, ?_⟩) (by assumption) ?_
    rotate_left
    · intro w hSw
      (try dsimp only at hSw)
      go_split_ands
      go_simp
      all_goals with_reducible rfl
    simp only [List.setIfInBounds_toArray, List.set_cons_zero, List.set_cons_succ]
    refine held_take (i := 12) (v := ?_) rfl (by kernel_rfl) (by kernel_rfl) (by kernel_rfl) (fun _ _ _ h => h) (Or.inl ⟨by kernel_rfl, ?_⟩) (by assumption) ?_
    rotate_left
    · intro w hSw
      (try dsimp only at hSw)
      go_split_ands
      go_simp
      all_goals with_reducible rfl
    simp only [List.setIfInBounds_toArray, List.set_cons_zero, List.set_cons_succ]
    refine held_take (i := 13) (v := ?_) rfl (by kernel_rfl) (by kernel_rfl) (by kernel_rfl) (fun _ _ _ h => h) (Or.inl ⟨by kernel_rfl, ?_⟩) (by assumption) ?_
    rotate_left
    · intro w hSw
      (try dsimp only at hSw)
      go_split_ands
      go_simp
      all_goals with_reducible rfl
    simp only [List.setIfInBounds_toArray, List.set_cons_zero, List.set_cons_succ]
    refine held_take (i := 14) (v := ?_) rfl (by kernel_rfl) (by kernel_rfl) (by kernel_rfl) (fun _ _ _ h => h) (Or.inl ⟨by kernel_rfl, ?_⟩) (by assumption) ?_
    rotate_left
    · intro w hSw
      (try dsimp only at hSw)
      go_split_ands
      go_simp
      all_goals with_reducible rfl
    simp only [List.setIfInBounds_toArray, List.set_cons_zero, List.set_cons_succ]
    refine held_take (i := 15) (v := ?_) rfl (by kernel_rfl) (by kernel_rfl) (by kernel_rfl) (fun _ _ _ h => h) (Or.inl ⟨by kernel_rfl, ?_⟩) (by assumption) ?_
    rotate_left
    · intro w hSw
      (try dsimp only at hSw)
      go_split_ands
      go_simp
      all_goals with_reducible rfl
    simp only [List.setIfInBounds_toArray, List.set_cons_zero, List.set_cons_succ]
    refine held_take (i := 16) (v := ?_) rfl (by kernel_rfl) (by kernel_rfl) (by kernel_rfl) (fun _ _ _ h => h) (Or.inl ⟨by kernel_rfl, ?_⟩) (by assumption) ?_
    rotate_left
    · intro w hSw
      (try dsimp only at hSw)
      go_split_ands
      go_simp
      all_goals with_reducible rfl
    simp only [List.setIfInBounds_toArray, List.set_cons_zero, List.set_cons_succ]
    refine held_take (i := 17) (v := ?_) rfl (by kernel_rfl) (by kernel_rfl) (by kernel_rfl) (fun _ _ _ h => h) (Or.inl ⟨by kernel_rfl, ?_⟩) (by assumption) ?_
    rotate_left
    · intro w hSw
      (try dsimp only at hSw)
      go_split_ands
      go_simp
      all_goals with_reducible rfl
    simp only [List.setIfInBounds_toArray, List.set_cons_zero, List.set_cons_succ]
    refine held_take (i := 18) (v := ?_) rfl (by kernel_rfl) (by kernel_rfl) (by kernel_rfl) (fun _ _ _ h => h) (Or.inl ⟨by kernel_rfl, ?_⟩) (by assumption) ?_
    rotate_left
    · intro w hSw
      (try dsimp only at hSw)
      go_split_ands
      go_simp
      all_goals with_reducible rfl
    simp only [List.setIfInBounds_toArray, List.set_cons_zero, List.set_cons_succ]
    refine held_take (i := 20) (v := ?_) rfl (by kernel_rfl) (by kernel_rfl) (by kernel_rfl) (fun _ _ _ h => h) (Or.inl ⟨by kernel_rfl, ?_⟩) (by assumption) ?_
    rotate_left
    · intro w hSw
      (try dsimp only at hSw)
      go_split_ands
      go_simp
      all_goals with_reducible rfl
    simp only [List.setIfInBounds_toArray, List.set_cons_zero, List.set_cons_succ]
    refine held_take (i := 21) (v := ?_) rfl (by kernel_rfl) (by kernel_rfl) (by kernel_rfl) (fun _ _ _ h => h) (Or.inl ⟨by kernel_rfl, ?_⟩) (by assumption) ?_
    rotate_left
    · intro w hSw
      (try dsimp only at hSw)
      go_split_ands
      go_simp
      all_goals with_reducible rfl
    simp only [List.setIfInBounds_toArray, List.set_cons_zero, List.set_cons_succ]
    refine held_take (i := 22) (v := ?_) rfl (by kernel_rfl) (by kernel_rfl) (by kernel_rfl) (fun _ _ _ h => h) (Or.inl ⟨by kernel_rfl, ?_⟩) (by assumption) ?_
    rotate_left
    · intro w hSw
      (try dsimp only at hSw)
      go_split_ands
      go_simp
      all_goals with_reducible rfl
    simp only [List.setIfInBounds_toArray, List.set_cons_zero, List.set_cons_succ]
    refine held_take (i := 23) (v := ?_) rfl (by kernel_rfl) (by kernel_rfl) (by kernel_rfl) (fun _ _ _ h => h) (Or.inl ⟨by kernel_rfl, ?_⟩) (by assumption) ?_
    rotate_left
    · intro w hSw
      (try dsimp only at hSw)
      go_split_ands
      go_simp
      all_goals with_reducible rfl
    simp only [List.setIfInBounds_toArray, List.set_cons_zero, List.set_cons_succ]
    refine held_take (i := 24) (v := ?_) rfl (by kernel_rfl) (by kernel_rfl) (by kernel_rfl) (fun _ _ _ h => h) (Or.inl ⟨by kernel_rfl, ?_⟩) (by assumption) ?_
    rotate_left
    · intro w hSw
      (try dsimp only at hSw)
      go_split_ands
      go_simp
      all_goals with_reducible rfl
    simp only [List.setIfInBounds_toArray, List.set_cons_zero, List.set_cons_succ]
    refine held_take (i := 25) (v := ?_) rfl (by kernel_rfl) (by kernel_rfl) (by kernel_rfl) (fun _ _ _ h => h) (Or.inl ⟨by kernel_rfl, ?_⟩) (by assumption) ?_
    rotate_left
    · intro w hSw
      (try dsimp only at hSw)
      go_split_ands
      go_simp
      all_goals with_reducible rfl
    simp only [List.setIfInBounds_toArray, List.set_cons_zero, List.set_cons_succ]
    refine held_take (i := 26) (v := ?_) rfl (by kernel_rfl) (by kernel_rfl) (by kernel_rfl) (fun _ _ _ h => h) (Or.inl ⟨by kernel_rfl, ?_⟩) (by assumption) ?_
    rotate_left
    · intro w hSw
      (try dsimp only at hSw)
      go_split_ands
      go_simp
      all_goals with_reducible rfl
    simp only [List.setIfInBounds_toArray, List.set_cons_zero, List.set_cons_succ]
    refine held_take (i := 27) (v := ?_) rfl (by kernel_rfl) (by kernel_rfl) (by kernel_rfl) (fun _ _ _ h => h) (Or.inl ⟨by kernel_rfl, ?_⟩) (by assumption) ?_
    rotate_left
    · intro w hSw
      (try dsimp only at hSw)
      go_split_ands
      go_simp
      all_goals with_reducible rfl
    simp only [List.setIfInBounds_toArray, List.set_cons_zero, List.set_cons_succ]
    refine wpAnyH_ready (rs := [19]) (by kernel_rfl) (by simp) ?_
    refine AllReadyH.cons rfl (fun K hK => ?_) AllReadyH.nil
    go_simp
    go_wp2_with (go_at_call 37; refine (hc1.out _ _ _ hF3).mono ?_; rintro e w' ⟨rfl, rfl⟩)
    refine hK.out _ _ ?_ (fun hHeld => ?_)
    · exact hHeld
    clear hK K
    refine wpAnyH_ready (rs := [28]) (by kernel_rfl) (by simp) ?_
    refine AllReadyH.cons rfl (fun K hK => ?_) AllReadyH.nil
    go_simp
    go_wp2_with (go_at_call 37; refine (hc2.out _ _ _ hF3).mono ?_; rintro e w' ⟨rfl, rfl⟩)
    refine hK.out _ _ ?_ (fun hHeld => ?_)
    · exact hHeld
    clear hK K
    refine held_take (i := 29) (v := ?_) rfl (by kernel_rfl) (by kernel_rfl) (by kernel_rfl) (fun _ _ _ h => h) (Or.inl ⟨by kernel_rfl, ?_⟩) (by assumption) ?_
    rotate_left
    · intro w hSw
      (try dsimp only at hSw)
      go_split_ands
      go_simp
      all_goals with_reducible rfl
    simp only [List.setIfInBounds_toArray, List.set_cons_zero, List.set_cons_succ]
    refine held_take (i := 30) (v := ?_) rfl (by kernel_rfl) (by kernel_rfl) (by kernel_rfl) (fun _ _ _ h => h) (Or.inl ⟨by kernel_rfl, ?_⟩) (by assumption) ?_
    rotate_left
    · intro w hSw
      (try dsimp only at hSw)
      go_split_ands
      go_simp
      all_goals with_reducible rfl
    simp only [List.setIfInBounds_toArray, List.set_cons_zero, List.set_cons_succ]
    refine held_take (i := 31) (v := ?_) rfl (by kernel_rfl) (by kernel_rfl) (by kernel_rfl) (fun _ _ _ h => h) (Or.inl ⟨by kernel_rfl, ?_⟩) (by assumption) ?_
    rotate_left
    · intro w hSw
      (try dsimp only at hSw)
      go_split_ands
      go_simp
      all_goals with_reducible rfl
    simp only [List.setIfInBounds_toArray, List.set_cons_zero, List.set_cons_succ]
    refine wpAnyH_done (by kernel_rfl) ?_ _
    obtain ⟨D3, hv3, m13, m23, m33⟩ := h3.map
    have k4 := (h2.below hb3).c4
    have hx3 := own_mono (own_below (own_below (own_below hv hb2) hb3) (Below.refl _ _).drew) (Nat.le_trans h.base (Nat.le_of_lt h.lt))
    have hkey := keyOf_int_mk Try.underlying3 (a := (d.n : Int)) (by simp [Lit.wf, IntKind.min, IntKind.max, IntKind.signed, IntKind.bits]; omega)
    have hmax : s.held.length < maxLen := by unfold maxLen; omega
    clear hc1 hcl2 m1 m2 m3 hb3 hF hF3 hHeld hHeld0 hS3 c0 c2 c5 g2 g3 g4 h1 h2 hgp hv hb hb2
    go_wp2_with (at_mapUpdate; refine wpList_mapUpdate_own _ rfl _ _ _ 69 rfl 3 75 lawInt Try.underlying69 asIs bm s.held.length D3 rfl m13 hmax _ _ (nk d.n) rfl rfl hkey (.held (pcV ⟨d.first, d.last, d.body⟩ (.slice av d.body.length cv))) [] rfl ?_; intro w4 ho4 hg4; have hJ4 := h3.put (p := ⟨d.first, d.last, d.body⟩) m23 m33 ho4 hg4 hx3 hgp0.out hnR hfew; have k5 := hJ4.c5; obtain ⟨cs, kb⟩ := own_blk hJ4.row; have kf := kb.free link none; obtain ⟨g', _, ⟨c', e'⟩, kg⟩ := row_at hJ4.row hl; cases e')
    have hbg : ButOf (JFoot b bm (.slice (some ⟨g, 0, none⟩) s.last.length cl)) w w4 := (ButOf.of_below hb123).after (ButOf.of_grown (K := fun k => k = bm) hg4 (fun k e => by cases e; rfl)) (fun i _ e => Or.inr (Or.inl e))
    have hJ5 := hJ4.setLast (k := link) (m := d.n) rfl hl hnR
    have hbs : ButOf (JFoot b bm (.slice (some ⟨g, 0, none⟩) s.last.length cl)) w (w4.setCell ⟨g, link, none⟩ (.int .i64 (d.n : Nat))) := hbg.set _ (Or.inl (Or.inr (Or.inr rfl)))
    have hb6 := below_alloc (Below.refl (w4.setCell ⟨g, link, none⟩ (.int .i64 (d.n : Nat))).heap.size _) (.cells #[.slice none 0 0] 23) (Nat.le_refl _)
    have hJ6 := hJ5.below hb6
    have hO6 := Blk.new (w4.setCell ⟨g, link, none⟩ (.int .i64 (d.n : Nat))) #[.slice none 0 0] 23
    have hB6 := hbs.trans (ButOf.of_below hb6)
    have ho0 := hbs.size
    clear hJ4 k5 kb kf kg ho4 hg4 hx3 hbg hJ5 h3 m13 m23 m33 hbs hb6 k4 hb12 hb123
    have e5 : (w4.setCell ⟨g, link, none⟩ (.int .i64 (d.n : Nat))).heap.size = w4.heap.size := by simp [World.setCell]
    rw [e5] at hO6 ho0
    generalize hvl : Value.slice (some ⟨g, 0, none⟩) s.last.length cl = vl at *
    go_loopw [] (fun wr => ∃ n, AddInv w B b bm w4.heap.size vl (putP s link d.n ⟨d.first, d.last, d.body⟩) wr n) (fun wr => Classical.epsilon fun n => AddInv w B b bm w4.heap.size vl (putP s link d.n ⟨d.first, d.last, d.body⟩) wr n ∧ ∀ m, AddInv w B b bm w4.heap.size vl (putP s link d.n ⟨d.first, d.last, d.body⟩) wr m → n ≤ m)
    case atStart => exact ⟨_, _, [], _, hJ6, hk0.out, hO6, Fr.nil _ _, hB6, (by simp; omega), (fun _ _ h => h), rfl⟩
    case round =>
      obtain ⟨s1, L, vo, i1, i2, i3, i4, i5, i6, i7, i8⟩ := low_spec hrel
      have hstp := step_any i1 i2.mild (Nat.le_trans i2.links.2 (by omega)) i3 i4 i5.size (by omega)
      replace hstp := Lib.hid hstp
      replace i1 := Lib.hid i1
      clear hJ6 hO6 hB6
      cases hst : stepP s1 with
      | some td =>
        obtain ⟨t, dd⟩ := td
        have hnx := fun w' hD => addInv_next (w' := w') (B := B) (o := w4.heap.size) i2 i4 i5 i6 i7 hst hD ho0
        rw [hst] at hstp
        replace hnx := Lib.hid hnx
        replace i8 := Lib.hid i8
        clear i2 i3 i4 i5 i6 i7 hst
        go_wp2_with (go_at_call 30; refine hstp.out.mono ?_; rintro e w7 ⟨rfl, hD⟩; simp only [Option.isSome_some])
        go_roundw
        case rel => exact ⟨_, (hnx.out _ hD).1⟩
        case measure => exact Nat.lt_of_le_of_lt (low_le (hnx.out _ hD).1) (by rw [i8.out]; exact (hnx.out _ hD).2)
      | none =>
        have hnx := fun w' hD => addInv_end (w' := w') (B := B) (o := w4.heap.size) i4 i5 i7 hst hD ho0
        rw [hst] at hstp
        replace hnx := Lib.hid hnx
        clear i2 i3 i4 i5 i6 i7 i8 hst
        go_wp2_with (go_at_call 30; refine hstp.out.mono ?_; rintro e w7 ⟨rfl, hD⟩; simp only [Option.isSome_none]; obtain ⟨hG, vo', ko, hJ7, hF7, hB7⟩ := hnx.out _ hD)
        go_ret2
        subst hvl
        exact ⟨_, _, _, rfl, hG, hJ7, hF7, hB7⟩
  · have hx0 : decide (0 ≤ x) = false := by simpa using hx
    clear hlast hx hxb
    go_enter Try.func15, Try.ntmps15
    go_wp2_with (first | (go_at_call 18; refine (hh _ hB).mono ?_; rintro e w1 ⟨v, rfl, hv, hb⟩; obtain ⟨av, cv, rfl⟩ := own_slice hv; simp only [Hd.res]; have h1 := h.below hb; have g2 := h1.c2; have g3 := h1.c3) | (go_at_call 29; refine (from_any _ g2).mono ?_; rintro e w2 ⟨rfl, hF, hb2⟩; have h2 := h1.below hb2; have g4 := h2.c4; obtain ⟨D, hv2, m1, m2, m3⟩ := h2.map; simp only [fromV]) | (at_lookup; refine wp_look_no _ rfl _ _ rfl rfl m1 m2 m3 rfl hn24 hgp.out ?_))
    have hb12 : Below w.heap.size w w2 := hb.trans (hb2.mono hb.size)
    have hb3 := below_alloc (Below.refl w2.heap.size w2) (.cells #[.bool false, .bool false, .slice none 0 0] 75) (Nat.le_refl _)
    have hF3 := (hF.below hb3).below (Below.refl _ _).drew
    have h3 := (h2.below hb3).below (Below.refl _ _).drew
    have hb123 := (hb12.trans (hb3.mono hb12.size)).drew
    have hS3 : _ ∧ _ := ⟨h3.c5, (hb123.cell (p := ⟨g, link, none⟩) hg).trans cg⟩
    have hHeld0 := hS3
    refine wp_region_held_drew (S := fun W => W.cell? ⟨b, 5, none⟩ = some (.slice (some ⟨g, 0, none⟩) s.last.length cl) ∧ W.cell? ⟨g, link, none⟩ = some (.int .i64 x)) (by kernel_rfl) hHeld0 (fun hHeld => ?_)
    refine held_take (i := 0) (v := ?_) rfl (by kernel_rfl) (by kernel_rfl) (by kernel_rfl) (fun _ _ _ h => h) (Or.inl ⟨by kernel_rfl, ?_⟩) (by assumption) ?_
    rotate_left
    · intro w hSw
      (try dsimp only at hSw)
      go_split_ands
      go_simp
      all_goals with_reducible rfl
    simp only [List.setIfInBounds_toArray, List.set_cons_zero, List.set_cons_succ]
    refine held_take (i := 1) (v := ?_) rfl (by kernel_rfl) (by kernel_rfl) (by kernel_rfl) (fun _ _ _ h => h) (Or.inl ⟨by kernel_rfl, ?_⟩) (by assumption) ?_
    rotate_left
    · intro w hSw
      (try dsimp only at hSw)
      go_split_ands
      go_simp
      all_goals with_reducible rfl
    simp only [List.setIfInBounds_toArray, List.set_cons_zero, List.set_cons_succ]
    refine wpAnyH_ready (rs := [2]) (by kernel_rfl) (by simp) ?_
    refine AllReadyH.cons rfl (fun K hK => ?_) AllReadyH.nil
    go_simp
    go_wp2_with (go_at_call 37; refine (hc1.out _ _ _ hF3).mono ?_; rintro e w' ⟨rfl, rfl⟩)
    refine hK.out _ _ ?_ (fun hHeld => ?_)
    · exact hHeld
    clear hK K
    refine held_take (i := 3) (v := ?_) rfl (by kernel_rfl) (by kernel_rfl) (by kernel_rfl) (fun _ _ _ h => h) (Or.inl ⟨by kernel_rfl, ?_⟩) (by assumption) ?_
    rotate_left
    · intro w hSw
      (try dsimp only at hSw)
      go_split_ands
      go_simp
      all_goals with_reducible rfl
    simp only [List.setIfInBounds_toArray, List.set_cons_zero, List.set_cons_succ]
    refine held_take (i := 4) (v := ?_) rfl (by kernel_rfl) (by kernel_rfl) (by kernel_rfl) (fun _ _ _ h => h) (Or.inl ⟨by kernel_rfl, ?_⟩) (by assumption) ?_
    rotate_left
    · intro w hSw
      (try dsimp only at hSw)
      go_split_ands
      go_simp
      all_goals with_reducible rfl
    simp only [List.setIfInBounds_toArray, List.set_cons_zero, List.set_cons_succ]
    refine held_take (i := 5) (v := ?_) rfl (by kernel_rfl) (by kernel_rfl) (by kernel_rfl) (fun _ _ _ h => h) (Or.inl ⟨by kernel_rfl, ?_⟩) (by assumption) ?_
    rotate_left
    · intro w hSw
      (try dsimp only at hSw)
      go_split_ands
      go_simp
      all_goals with_reducible rfl
    simp only [List.setIfInBounds_toArray, List.set_cons_zero, List.set_cons_succ]
    refine held_take (i := 6) (v := ?_) rfl (by kernel_rfl) (by kernel_rfl) (by kernel_rfl) (fun _ _ _ h => h) (Or.inl ⟨by kernel_rfl, ?_⟩) (by assumption) ?_
    rotate_left
    · intro w hSw
      (try dsimp only at hSw)
      go_split_ands
      go_simp
      all_goals with_reducible rfl
    simp only [List.setIfInBounds_toArray, List.set_cons_zero, List.set_cons_succ]
    refine held_take (i := 7) (v := ?_) rfl (by kernel_rfl) (by kernel_rfl) (by kernel_rfl) (fun _ _ _ h => h) (Or.inl ⟨by kernel_rfl, ?_⟩) (by assumption) ?_
    rotate_left
    · intro w hSw
      (try dsimp only at hSw)
      go_split_ands
      go_simp
      all_goals with_reducible rfl
    simp only [List.setIfInBounds_toArray, List.set_cons_zero, List.set_cons_succ]
    refine held_take (i := 8) (v := ?_) rfl (by kernel_rfl) (by kernel_rfl) (by kernel_rfl) (fun _ _ _ h => h) (Or.inl ⟨by kernel_rfl, ?_⟩) (by assumption) ?_
    rotate_left
    · intro w hSw
      (try dsimp only at hSw)
      go_split_ands
      go_simp
      all_goals with_reducible rfl
    simp only [List.setIfInBounds_toArray, List.set_cons_zero, List.set_cons_succ]
    refine held_take (i := 9) (v := ?_) rfl (by kernel_rfl) (by kernel_rfl) (by kernel_rfl) (fun _ _ _ h => h) (Or.inl ⟨by kernel_rfl, ?_⟩) (by assumption) ?_
    rotate_left
    · intro w hSw
      (try dsimp only at hSw)
      go_split_ands
      go_simp
      all_goals with_reducible rfl
    simp only [List.setIfInBounds_toArray, List.set_cons_zero, List.set_cons_succ]
    refine held_take (i := 10) (v := ?_) rfl (by kernel_rfl) (by kernel_rfl) (by kernel_rfl) (fun _ _ _ h => h) (Or.inl ⟨by kernel_rfl, ?_⟩) (by assumption) ?_
    rotate_left
    · intro w hSw
      (try dsimp only at hSw)
      go_split_ands
      go_simp
      all_goals with_reducible rfl
    simp only [List.setIfInBounds_toArray, List.set_cons_zero, List.set_cons_succ]
    refine held_take (i := 11) (v := ?_) rfl (by kernel_rfl) (by kernel_rfl) (by kernel_rfl) (fun _ _ _ h => h) (Or.inl ⟨by kernel_rfl, ?_⟩) (by assumption) ?_
    rotate_left
    · intro w hSw
      (try dsimp only at hSw)
      go_split_ands
      go_simp
      all_goals with_reducible rfl
    simp only [List.setIfInBounds_toArray, List.set_cons_zero, List.set_cons_succ]
    refine held_take (i := 12) (v := ?_) rfl (by kernel_rfl) (by kernel_rfl) (by kernel_rfl) (fun _ _ _ h => h) (Or.inl ⟨by kernel_rfl, ?_⟩) (by assumption) ?_
    rotate_left
    · intro w hSw
      (try dsimp only at hSw)
      go_split_ands
      go_simp
      all_goals with_reducible rfl
    simp only [List.setIfInBounds_toArray, List.set_cons_zero, List.set_cons_succ]
    refine held_take (i := 13) (v := ?_) rfl (by kernel_rfl) (by kernel_rfl) (by kernel_rfl) (fun _ _ _ h => h) (Or.inl ⟨by kernel_rfl, ?_⟩) (by assumption) ?_
    rotate_left
    · intro w hSw
      (try dsimp only at hSw)
      go_split_ands
      go_simp
      all_goals with_reducible rfl
    simp only [List.setIfInBounds_toArray, List.set_cons_zero, List.set_cons_succ]
    refine held_take (i := 14) (v := ?_) rfl (by kernel_rfl) (by kernel_rfl) (by kernel_rfl) (fun _ _ _ h => h) (Or.inl ⟨by kernel_rfl, ?_⟩) (by assumption) ?_
    rotate_left
    · intro w hSw
      (try dsimp only at hSw)
      go_split_ands
      go_simp
      all_goals with_reducible rfl
    simp only [List.setIfInBounds_toArray, List.set_cons_zero, List.set_cons_succ]
    refine held_take (i := 15) (v := ?_) rfl (by kernel_rfl) (by kernel_rfl) (by kernel_rfl) (fun _ _ _ h => h) (Or.inl ⟨by kernel_rfl, ?_⟩) (by assumption) ?_
    rotate_left
    · intro w hSw
      (try dsimp only at hSw)
      go_split_ands
      go_simp
      all_goals with_reducible rfl
    simp only [List.setIfInBounds_toArray, List.set_cons_zero, List.set_cons_succ]
    refine held_take (i := 16) (v := ?_) rfl (by kernel_rfl) (by kernel_rfl) (by kernel_rfl) (fun _ _ _ h => h) (Or.inl ⟨by kernel_rfl, ?_⟩) (by assumption) ?_
    rotate_left
    · intro w hSw
      (try dsimp only at hSw)
      go_split_ands
      go_simp
      all_goals with_reducible rfl
    simp only [List.setIfInBounds_toArray, List.set_cons_zero, List.set_cons_succ]
    refine held_take (i := 17) (v := undef) rfl (by kernel_rfl) (by kernel_rfl) (by kernel_rfl) (fun _ _ _ h => h) (Or.inr ⟨by kernel_rfl, rfl⟩) (by assumption) ?_
    simp only [List.setIfInBounds_toArray, List.set_cons_zero, List.set_cons_succ]
    refine held_take (i := 18) (v := undef) rfl (by kernel_rfl) (by kernel_rfl) (by kernel_rfl) (fun _ _ _ h => h) (Or.inr ⟨by kernel_rfl, rfl⟩) (by assumption) ?_
    simp only [List.setIfInBounds_toArray, List.set_cons_zero, List.set_cons_succ]
    refine held_take (i := 19) (v := undef) rfl (by kernel_rfl) (by kernel_rfl) (by kernel_rfl) (fun _ _ _ h => h) (Or.inr ⟨by kernel_rfl, rfl⟩) (by assumption) ?_
    simp only [List.setIfInBounds_toArray, List.set_cons_zero, List.set_cons_succ]
    refine held_take (i := 20) (v := undef) rfl (by kernel_rfl) (by kernel_rfl) (by kernel_rfl) (fun _ _ _ h => h) (Or.inr ⟨by kernel_rfl, rfl⟩) (by assumption) ?_
    simp only [List.setIfInBounds_toArray, List.set_cons_zero, List.set_cons_succ]
    refine held_take (i := 21) (v := undef) rfl (by kernel_rfl) (by kernel_rfl) (by kernel_rfl) (fun _ _ _ h => h) (Or.inr ⟨by kernel_rfl, rfl⟩) (by assumption) ?_
    simp only [List.setIfInBounds_toArray, List.set_cons_zero, List.set_cons_succ]
    refine held_take (i := 22) (v := undef) rfl (by kernel_rfl) (by kernel_rfl) (by kernel_rfl) (fun _ _ _ h => h) (Or.inr ⟨by kernel_rfl, rfl⟩) (by assumption) ?_
    simp only [List.setIfInBounds_toArray, List.set_cons_zero, List.set_cons_succ]
    refine held_take (i := 23) (v := undef) rfl (by kernel_rfl) (by kernel_rfl) (by kernel_rfl) (fun _ _ _ h => h) (Or.inr ⟨by kernel_rfl, rfl⟩) (by assumption) ?_
    simp only [List.setIfInBounds_toArray, List.set_cons_zero, List.set_cons_succ]
    refine held_take (i := 24) (v := undef) rfl (by kernel_rfl) (by kernel_rfl) (by kernel_rfl) (fun _ _ _ h => h) (Or.inr ⟨by kernel_rfl, rfl⟩) (by assumption) ?_
    simp only [List.setIfInBounds_toArray, List.set_cons_zero, List.set_cons_succ]
    refine held_take (i := 25) (v := undef) rfl (by kernel_rfl) (by kernel_rfl) (by kernel_rfl) (fun _ _ _ h => h) (Or.inr ⟨by kernel_rfl, rfl⟩) (by assumption) ?_
    simp only [List.setIfInBounds_toArray, List.set_cons_zero, List.set_cons_succ]
    refine held_take (i := 26) (v := undef) rfl (by kernel_rfl) (by kernel_rfl) (by kernel_rfl) (fun _ _ _ h => h) (Or.inr ⟨by kernel_rfl, rfl⟩) (by assumption) ?_
    simp only [List.setIfInBounds_toArray, List.set_cons_zero, List.set_cons_succ]
    refine held_take (i := 27) (v := undef) rfl (by kernel_rfl) (by kernel_rfl) (by kernel_rfl) (fun _ _ _ h => h) (Or.inr ⟨by kernel_rfl, rfl⟩) (by assumption) ?_
    simp only [List.setIfInBounds_toArray, List.set_cons_zero, List.set_cons_succ]
    refine held_take (i := 28) (v := undef) rfl (by kernel_rfl) (by kernel_rfl) (by kernel_rfl) (fun _ _ _ h => h) (Or.inr ⟨by kernel_rfl, rfl⟩) (by assumption) ?_
    simp only [List.setIfInBounds_toArray, List.set_cons_zero, List.set_cons_succ]
    refine held_take (i := 29) (v := undef) rfl (by kernel_rfl) (by kernel_rfl) (by kernel_rfl) (fun _ _ _ h => h) (Or.inr ⟨by kernel_rfl, rfl⟩) (by assumption) ?_
    simp only [List.setIfInBounds_toArray, List.set_cons_zero, List.set_cons_succ]
    refine held_take (i := 30) (v := ?_) rfl (by kernel_rfl) (by kernel_rfl) (by kernel_rfl) (fun _ _ _ h => h) (Or.inl ⟨by kernel_rfl, ?_⟩) (by assumption) ?_
    rotate_left
    · intro w hSw
      (try dsimp only at hSw)
      go_split_ands
      go_simp
      all_goals with_reducible rfl
    simp only [List.setIfInBounds_toArray, List.set_cons_zero, List.set_cons_succ]
    refine held_take (i := 31) (v := ?_) rfl (by kernel_rfl) (by kernel_rfl) (by kernel_rfl) (fun _ _ _ h => h) (Or.inl ⟨by kernel_rfl, ?_⟩) (by assumption) ?_
    rotate_left
    · intro w hSw
      (try dsimp only at hSw)
      go_split_ands
      go_simp
      all_goals with_reducible rfl
    simp only [List.setIfInBounds_toArray, List.set_cons_zero, List.set_cons_succ]
    refine wpAnyH_done (by kernel_rfl) ?_ _
    obtain ⟨D3, hv3, m13, m23, m33⟩ := h3.map
    have k4 := (h2.below hb3).c4
    have hx3 := own_mono (own_below (own_below (own_below hv hb2) hb3) (Below.refl _ _).drew) (Nat.le_trans h.base (Nat.le_of_lt h.lt))
    have hkey := keyOf_int_mk Try.underlying3 (a := (d.n : Int)) (by simp [Lit.wf, IntKind.min, IntKind.max, IntKind.signed, IntKind.bits]; omega)
    have hmax : s.held.length < maxLen := by unfold maxLen; omega
    clear hc1 hcl2 m1 m2 m3 hb3 hF hF3 hHeld hHeld0 hS3 c0 c2 c5 g2 g3 g4 h1 h2 hgp hv hb hb2
    go_wp2_with (at_mapUpdate; refine wpList_mapUpdate_own _ rfl _ _ _ 69 rfl 3 75 lawInt Try.underlying69 asIs bm s.held.length D3 rfl m13 hmax _ _ (nk d.n) rfl rfl hkey (.held (pcV ⟨d.first, d.last, d.body⟩ (.slice av d.body.length cv))) [] rfl ?_; intro w4 ho4 hg4; have hJ4 := h3.put (p := ⟨d.first, d.last, d.body⟩) m23 m33 ho4 hg4 hx3 hgp0.out hnR hfew; have k5 := hJ4.c5; obtain ⟨cs, kb⟩ := own_blk hJ4.row; have kf := kb.free link none; obtain ⟨g', _, ⟨c', e'⟩, kg⟩ := row_at hJ4.row hl; cases e')
    have hbg : ButOf (JFoot b bm (.slice (some ⟨g, 0, none⟩) s.last.length cl)) w w4 := (ButOf.of_below hb123).after (ButOf.of_grown (K := fun k => k = bm) hg4 (fun k e => by cases e; rfl)) (fun i _ e => Or.inr (Or.inl e))
    have hJ5 := hJ4.setLast (k := link) (m := d.n) rfl hl hnR
    have hbs : ButOf (JFoot b bm (.slice (some ⟨g, 0, none⟩) s.last.length cl)) w (w4.setCell ⟨g, link, none⟩ (.int .i64 (d.n : Nat))) := hbg.set _ (Or.inl (Or.inr (Or.inr rfl)))
    have hb6 := below_alloc (Below.refl (w4.setCell ⟨g, link, none⟩ (.int .i64 (d.n : Nat))).heap.size _) (.cells #[.slice none 0 0] 23) (Nat.le_refl _)
    have hJ6 := hJ5.below hb6
    have hO6 := Blk.new (w4.setCell ⟨g, link, none⟩ (.int .i64 (d.n : Nat))) #[.slice none 0 0] 23
    have hB6 := hbs.trans (ButOf.of_below hb6)
    have ho0 := hbs.size
    clear hJ4 k5 kb kf kg ho4 hg4 hx3 hbg hJ5 h3 m13 m23 m33 hbs hb6 k4 hb12 hb123
    have e5 : (w4.setCell ⟨g, link, none⟩ (.int .i64 (d.n : Nat))).heap.size = w4.heap.size := by simp [World.setCell]
    rw [e5] at hO6 ho0
    generalize hvl : Value.slice (some ⟨g, 0, none⟩) s.last.length cl = vl at *
    go_loopw [] (fun wr => ∃ n, AddInv w B b bm w4.heap.size vl (putP s link d.n ⟨d.first, d.last, d.body⟩) wr n) (fun wr => Classical.epsilon fun n => AddInv w B b bm w4.heap.size vl (putP s link d.n ⟨d.first, d.last, d.body⟩) wr n ∧ ∀ m, AddInv w B b bm w4.heap.size vl (putP s link d.n ⟨d.first, d.last, d.body⟩) wr m → n ≤ m)
    case atStart => exact ⟨_, _, [], _, hJ6, hk0.out, hO6, Fr.nil _ _, hB6, (by simp; omega), (fun _ _ h => h), rfl⟩
    case round =>
      obtain ⟨s1, L, vo, i1, i2, i3, i4, i5, i6, i7, i8⟩ := low_spec hrel
      have hstp := step_any i1 i2.mild (Nat.le_trans i2.links.2 (by omega)) i3 i4 i5.size (by omega)
      replace hstp := Lib.hid hstp
      replace i1 := Lib.hid i1
      clear hJ6 hO6 hB6
      cases hst : stepP s1 with
      | some td =>
        obtain ⟨t, dd⟩ := td
        have hnx := fun w' hD => addInv_next (w' := w') (B := B) (o := w4.heap.size) i2 i4 i5 i6 i7 hst hD ho0
        rw [hst] at hstp
        replace hnx := Lib.hid hnx
        replace i8 := Lib.hid i8
        clear i2 i3 i4 i5 i6 i7 hst
        go_wp2_with (go_at_call 30; refine hstp.out.mono ?_; rintro e w7 ⟨rfl, hD⟩; simp only [Option.isSome_some])
        go_roundw
        case rel => exact ⟨_, (hnx.out _ hD).1⟩
        case measure => exact Nat.lt_of_le_of_lt (low_le (hnx.out _ hD).1) (by rw [i8.out]; exact (hnx.out _ hD).2)
      | none =>
        have hnx := fun w' hD => addInv_end (w' := w') (B := B) (o := w4.heap.size) i4 i5 i7 hst hD ho0
        rw [hst] at hstp
        replace hnx := Lib.hid hnx
        clear i2 i3 i4 i5 i6 i7 i8 hst
        go_wp2_with (go_at_call 30; refine hstp.out.mono ?_; rintro e w7 ⟨rfl, hD⟩; simp only [Option.isSome_none]; obtain ⟨hG, vo', ko, hJ7, hF7, hB7⟩ := hnx.out _ hD)
        go_ret2
        subst hvl
        exact ⟨_, _, _, rfl, hG, hJ7, hF7, hB7⟩
end Go.Proofs.Ytglmlhbchfgliaa
