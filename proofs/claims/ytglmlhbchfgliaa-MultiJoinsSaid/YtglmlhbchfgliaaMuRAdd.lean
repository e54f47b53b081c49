/-
  The reference's Add. Conditions: a fragment has no more than 100000 bytes.
-/
import Derived.Test.YtglmlhbchfgliaaMuRStep2
import Derived.Test.YtglmlhbchfgliaaMuRHead
import Derived.Test.YtglmlhbchfgliaaMuAw
namespace Go.Proofs.Ytglmlhbchfgliaa
open Go.RowKit Go.Maps
section
variable {w w' : World} {B b : Nat} {vl vh : Value} {s : JS}
theorem RJ.setLast {g c k m : Nat} (h : RJ w B b (.slice (some ⟨g, 0, none⟩) s.last.length c) vh s) (hk : k < s.last.length) : RJ (w.setCell ⟨g, k, none⟩ (.int .i64 (m : Nat))) B b (.slice (some ⟨g, 0, none⟩) s.last.length c) vh { s with last := s.last.set k (m : Int) } ∧ ButOf (fun k => k = g) w (w.setCell ⟨g, k, none⟩ (.int .i64 (m : Nat))) := by
  have hb : ButOf (fun k => k = g) w (w.setCell ⟨g, k, none⟩ (.int .i64 (m : Nat))) := (ButOf.refl _ w).set _ (Or.inl rfl)
  obtain ⟨vs, e1, e2⟩ := h.held
  have hrow : (w.setCell ⟨g, k, none⟩ (.int .i64 (m : Nat))).ownsRow B 3 1 (.slice (some ⟨g, 0, none⟩) s.last.length c) (s.last.set k (m : Int)).length ((s.last.set k (m : Int)).map zv) := by
    have := own_setElem h.row hk (zv (m : Int))
    refine own_congr this (by simp) ?_
    rw [List.map_set]
  refine ⟨⟨h.blk.but hb (fun e => own_blk_ne h.row h.blk (by decide) (e ▸ rfl)), hrow, ⟨vs, own_but e1 hb (fun k' hk' e => own_own_ne e1 h.row (by decide) hk' (by rw [e]; rfl)), e2.but hb (fun x hx k' hk' e => ?_)⟩, h.base⟩, hb⟩
  obtain ⟨l', hl'⟩ := e2.mem x hx
  exact own_own_ne hl' h.row (by decide) hk' (by rw [e]; rfl)
/-- a fragment more is held -/
theorem RJ.put {vh' x : Value} {n : Nat} {p : Pc} {vs : List Value} (h : RJ w B b vl vh s) (hh : w.ownsRow B 82 4 vh s.held.length (prCells vs s.held)) (he : Each w B vs (s.held.map (·.2.b))) (hx : w.ownsRow B 5 1 x p.b.length (p.b.map bv))
    (ho : w'.ownsRow B 82 4 vh' (s.held.length + 1) (prCells vs s.held ++ [.int .i64 (n : Nat), .bool p.first, .bool p.last, x])) (hg : w.grownBy w' vh.ownBlock) :
    RJ (w'.setCell ⟨b, 4, none⟩ vh') B b vl vh' { s with held := s.held ++ [(n, p)] } ∧ ButOf (RFoot b vl vh) w (w'.setCell ⟨b, 4, none⟩ vh') ∧ w'.cell? ⟨b, 4, none⟩ = some vh ∧ ∃ cs, Blk w' b cs 63 := by
  have hl := he.length
  rw [List.length_map] at hl
  have hb : ButOf (fun k => vh.ownBlock = some k) w w' := ButOf.of_grown hg (fun _ e => e)
  have k1 : Blk w' b _ _ := h.blk.but hb (fun e => own_blk_ne hh h.blk (by decide) e)
  have hb2 : ButOf (fun k => k = b) w' (w'.setCell ⟨b, 4, none⟩ vh') := (ButOf.refl _ w').set vh' (Or.inl rfl)
  have hne : ∀ {y : Value} {l : List UInt8}, w.ownsRow B 5 1 y l.length (l.map bv) → ∀ k, y.ownBlock = some k → ¬ vh.ownBlock = some k := fun hy k hk => own_own_ne hy hh (by decide) hk
  have hr1 := own_but h.row hb (fun k hk => own_own_ne h.row hh (by decide) hk)
  have he1 : Each w' B (vs ++ [x]) ((s.held ++ [(n, p)]).map (·.2.b)) := by
    rw [List.map_append]
    refine (he.but hb (fun y hy k hk => ?_)).snoc (own_but hx hb (hne hx))
    obtain ⟨l', hl'⟩ := he.mem y hy
    exact hne hl' k hk
  refine ⟨⟨k1.set 4 vh', own_but hr1 hb2 (fun k hk e => own_blk_ne hr1 k1 (by decide) (e ▸ hk)), ⟨vs ++ [x], own_but (own_congr ho (by simp) (prCells_snoc (p := (n, p)) hl).symm) hb2 (fun k hk e => own_blk_ne ho k1 (by decide) (e ▸ hk)), he1.but hb2 (fun y hy k hk e => ?_)⟩, h.base⟩,
    ((ButOf.of_grown (K := RFoot b vl vh) hg (fun _ e => Or.inr (Or.inr e))).set vh' (Or.inl (Or.inl rfl))), (by rw [k1.cell]; rfl), _, k1⟩
  obtain ⟨l', hl'⟩ := he1.mem y hy
  exact own_blk_ne hl' k1 (by decide) (e ▸ hk)
/-- rows that calls made stay where the joiner is written -/
theorem Fr.rj {B' : Nat} {vo : Value} {L : List (List UInt8)} (hF : Fr w B' vo L) (h : RJ w B b vl vh s) (hb : ButOf (fun k => k = b) w w') : Fr w' B' vo L := by
  obtain ⟨xs, h1, h2⟩ := hF.ex
  refine ⟨xs, own_but h1 hb (fun k hk e => own_blk_ne h1 h.blk (by decide) (e ▸ hk)), h2.but hb (fun x hx k hk e => ?_)⟩
  obtain ⟨l', hl'⟩ := h2.mem x hx
  exact own_blk_ne hl' h.blk (by decide) (e ▸ hk)
theorem Fr.rf {B' : Nat} {vo : Value} {L : List (List UInt8)} (hF : Fr w B' vo L) (h : RJ w B b vl vh s) (hb : ButOf (RFoot b vl vh) w w') : Fr w' B' vo L := by
  obtain ⟨xs, h1, h2⟩ := hF.ex
  obtain ⟨vs, e1, _⟩ := h.held
  have hn : ∀ {E n B'' : Nat} {v : Value} {ys : List Value}, w.ownsRow B'' E 1 v n ys → E ≠ 3 → E ≠ 63 → E ≠ 82 → ∀ k, v.ownBlock = some k → ¬ RFoot b vl vh k := fun hv hE1 hE2 hE3 k hk e => by
    rcases e with e | e | e
    · exact own_blk_ne hv h.blk hE2 (e ▸ hk)
    · exact own_own_ne hv h.row hE1 hk e
    · exact own_own_ne hv e1 hE3 hk e
  refine ⟨xs, own_but h1 hb (hn h1 (by decide) (by decide) (by decide)), h2.but hb (fun x hx k hk => ?_)⟩
  obtain ⟨l', hl'⟩ := h2.mem x hx
  exact hn hl' (by decide) (by decide) (by decide) k hk
theorem RJ.grown {B' n : Nat} {v : Value} {xs : List Value} (h : RJ w B b vl vh s) (f : w.ownsRow B' 27 1 v n xs) (hg : w.grownBy w' v.ownBlock) : RJ w' B b vl vh s := by
  obtain ⟨vs, e1, _⟩ := h.held
  refine h.but (ButOf.of_grown (K := fun k => v.ownBlock = some k) hg (fun _ e => e)) (fun e => own_blk_ne f h.blk (by decide) e) (fun k hk => own_own_ne h.row f (by decide) hk) (fun k hk => own_own_ne e1 f (by decide) hk) (fun hy k hk => own_own_ne hy f (by decide) hk)
theorem step_len {t : JS} {d : List (List UInt8)} (h : stepP s = some (t, d)) : d.length ≤ 1 := by
  unfold stepP at h
  split at h
  · simp only [Option.some.injEq, Prod.mk.injEq] at h
    obtain ⟨_, rfl⟩ := h
    exact joinD_len _
  · split at h
    · simp only [Option.some.injEq, Prod.mk.injEq] at h
      obtain ⟨_, rfl⟩ := h
      exact Nat.zero_le _
    · split at h
      · simp only [Option.some.injEq, Prod.mk.injEq] at h
        obtain ⟨_, rfl⟩ := h
        exact Nat.zero_le _
      · split at h
        · simp only [Option.some.injEq, Prod.mk.injEq] at h
          obtain ⟨_, rfl⟩ := h
          exact Nat.zero_le _
        · cases h
theorem StepE.none_ {e : Ending} (hst : stepP s = none) (h : StepE w w' B b vl vh s e) : e = .returned (.tuple #[.slice none 0 0, .bool false]) ∧ RJ w' B b vl vh s ∧ ButOf (fun k => k = b) w w' := by
  unfold StepE at h; rw [hst] at h; exact h
theorem StepE.nil_ {t : JS} {e : Ending} (hst : stepP s = some (t, [])) (h : StepE w w' B b vl vh s e) : ∃ vh', e = .returned (.tuple #[.slice none 0 0, .bool true]) ∧ RJ w' B b vl vh' t ∧ (∀ k, vh'.ownBlock = some k → w.heap.size ≤ k) ∧ ButOf (fun k => k = b) w w' := by
  unfold StepE at h; rw [hst] at h
  obtain ⟨v, vh', rfl, hD, h1, h2, h3⟩ := h
  rcases hD with ⟨_, rfl⟩ | ⟨x, g, c, h0, _⟩
  · exact ⟨vh', rfl, h1, h2, h3⟩
  · cases h0
theorem StepE.dat_ {t : JS} {x : List UInt8} {e : Ending} (hst : stepP s = some (t, [x])) (h : StepE w w' B b vl vh s e) : ∃ g c vh', e = .returned (.tuple #[.slice (some ⟨g, 0, none⟩) x.length c, .bool true]) ∧ w'.ownsRow w.heap.size 5 1 (.slice (some ⟨g, 0, none⟩) x.length c) x.length (x.map bv) ∧ RJ w' B b vl vh' t ∧ (∀ k, vh'.ownBlock = some k → w.heap.size ≤ k) ∧ ButOf (fun k => k = b) w w' := by
  unfold StepE at h; rw [hst] at h
  obtain ⟨v, vh', rfl, hD, h1, h2, h3⟩ := h
  rcases hD with ⟨h0, _⟩ | ⟨y, g, c, h0, rfl, ho⟩
  · cases h0
  · cases h0
    exact ⟨g, c, vh', rfl, ho, h1, h2, h3⟩
end
/-- what holds ahead of each step -/
def RAddInv (w : World) (B b : Nat) (vl vh : Value) (s0 : JS) (vo : Value) (wr : World) (n : Nat) : Prop :=
  ∃ (s1 : JS) (L : List (List UInt8)) (vh1 : Value), RJ wr B b vl vh1 s1 ∧ Ok s1 ∧ Fr wr w.heap.size vo L ∧ ButOf (RFoot b vl vh) w wr ∧ Next w vh vh1 ∧ L.length + s1.held.length ≤ 200 ∧
    (∀ M t, Goes s1 M t → Goes s0 (L ++ M) t) ∧ n = measP s1
section
variable {w wr w' : World} {B b : Nat} {vl vh vh1 vh2 vo : Value} {s0 s1 t : JS} {L d : List (List UInt8)}
theorem rAdd_next {v2 : Value} {w2 : World} (hok : Ok s1) (hL : L.length + s1.held.length ≤ 200) (hG : ∀ M t, Goes s1 M t → Goes s0 (L ++ M) t) (hst : stepP s1 = some (t, d)) (hb : ButOf (RFoot b vl vh) w wr) (_ : Next w vh vh1)
    (hJ : RJ w2 B b vl vh2 t) (hn2 : ∀ k, vh2.ownBlock = some k → wr.heap.size ≤ k) (hF : Fr w2 w.heap.size v2 (L ++ d)) (hb2 : ButOf (RFoot b vl vh) w w2) : RAddInv w B b vl vh s0 v2 w2 (measP t) ∧ measP t < measP s1 := by
  obtain ⟨a1, a2, a3, _⟩ := step_ok hok hst
  refine ⟨⟨t, L ++ d, vh2, hJ, a1, hF, hb2, fun k hk => Or.inr (Nat.le_trans hb.size (hn2 k hk)), by rw [List.length_append]; omega, fun M u hM => ?_, rfl⟩, a2⟩
  rw [List.append_assoc]
  exact hG _ _ (Goes.go hst hM)
theorem rAdd_foot {w2 : World} (hb : ButOf (RFoot b vl vh) w wr) (hb2 : ButOf (fun k => k = b) wr w2) : ButOf (RFoot b vl vh) w w2 := hb.after hb2 (fun _ _ e => Or.inl e)
theorem rAdd_goes (hG : ∀ M t, Goes s1 M t → Goes s0 (L ++ M) t) (hst : stepP s1 = none) : Goes s0 L s1 := by
  have := hG [] s1 (Goes.stop hst)
  rwa [List.append_nil] at this
end
section
variable {w : World} {B b : Nat} {vl vh : Value} {s : JS}
theorem rstep_any (h : RJ w B b vl vh s) (hk : Ok s) : Calls Try.prog 36 #[.pointer (some ⟨b, 0, none⟩)] w fun e w' => StepE w w' B b vl vh s e := by
  cases hL : runP s with
  | nil =>
    cases hg : goneP s (runP s).length with
    | true => exact rstep_nil_gone h hk hL hg
    | false => exact if h64 : 64 < s.held.length then rstep_nil_many h hk hL hg h64 else rstep_nil_few h hk hL hg h64
  | cons p r =>
    cases hf : p.first with
    | false => exact rstep_odd h hk hL hf
    | true =>
      cases hX : rrunF 0 0 [] (p :: r) with
      | none =>
        cases hg : goneP s (runP s).length with
        | true => exact rstep_none_gone h hk hL hf hX hg
        | false => exact if h64 : 64 < s.held.length then rstep_none_many h hk hL hf hX hg h64 else rstep_none_few h hk hL hf hX hg h64
      | some y =>
        obtain ⟨m, x⟩ := y
        cases x with
        | none => exact rstep_new h hk hL hf hX
        | some d => exact rstep_dat h hk hL hf hX
end
set_option maxRecDepth 100000 in
theorem radd_arg {w : World} {B b : Nat} {vl vh : Value} {s : JS} (link : Int) (v : Value) (h : RJ w B b vl vh s) (hl : link < 0 ∨ (s.last.length : Int) ≤ link) :
    Calls Try.prog 26 #[.pointer (some ⟨b, 0, none⟩), .int .i64 link, v] w fun e w' => e = .returned (.tuple #[.slice none 0 0, .int .i64 1]) ∧ Below w.heap.size w w' := by
  have c3 := h.c3
  obtain ⟨al, cl, rfl⟩ := own_slice h.row
  by_cases hneg : link < 0
  · go_enter Try.func26, Try.ntmps26
    go_wp2_with fail
    go_ret2
    exact ⟨rfl, Below.refl _ _⟩
  · have hl : (s.last.length : Int) ≤ link := by omega
    have hneg : 0 ≤ link := by omega
    go_enter Try.func26, Try.ntmps26
    go_wp2_with fail
    go_ret2
    exact ⟨rfl, Below.refl _ _⟩
set_option maxRecDepth 100000 in
theorem radd_head {w : World} {B b : Nat} {vl vh : Value} {s : JS} {a : Option Addr} {n c : Nat} {l : List UInt8} (link : Nat) (h : RJ w B b vl vh s) (hB : Bts w a n c l) (hl : link < s.last.length) (he : (headP l s.short).err ≠ 0) :
    Calls Try.prog 26 #[.pointer (some ⟨b, 0, none⟩), .int .i64 (link : Nat), .slice a n c] w fun e w' => e = .returned (.tuple #[.slice none 0 0, .int .i64 ((headP l s.short).err : Nat)]) ∧ Below w.heap.size w w' := by
  have c0 := h.c0
  have c3 := h.c3
  obtain ⟨al, cl, rfl⟩ := own_slice h.row
  have hlI : (link : Int) < (s.last.length : Int) := by omega
  have hl0 : (0 : Int) ≤ (link : Int) := by omega
  have hh := fun W hW => rhead_any (w := W) (a := a) (n := n) (c := c) (l := l) s.short hW
  generalize headP l s.short = d at *
  have heI : (((d.err : Nat) : Int) != 0) = true := by rw [bne_cast]; simpa using he
  go_enter Try.func26, Try.ntmps26
  go_wp2_with (go_at_call 19; refine (hh _ hB).mono ?_; rintro e w1 ⟨v, rfl, hv, hb⟩; obtain ⟨av, cv, rfl⟩ := own_slice hv; simp only [Hd.res])
  go_ret2
  exact ⟨rfl, hb⟩
set_option maxRecDepth 100000 in
set_option maxHeartbeats 4000000 in
theorem radd_old {w : World} {B b : Nat} {vl vh : Value} {s : JS} {a : Option Addr} {n c : Nat} {l : List UInt8} (link : Nat) (h : RJ w B b vl vh s) (h_ok : Ok s) (hB : Bts w a n c l) (hl : link < s.last.length) (he : (headP l s.short).err = 0) (ho : oldP s link (headP l s.short).n = true) :
    Calls Try.prog 26 #[.pointer (some ⟨b, 0, none⟩), .int .i64 (link : Nat), .slice a n c] w fun e w' => e = .returned (.tuple #[.slice none 0 0, .int .i64 8]) ∧ Below w.heap.size w w' := by
  have c0 := h.c0
  have c2 := h.c2
  have c3 := h.c3
  obtain ⟨g, hg, ⟨cl, rfl⟩, cg⟩ := row_at h.row hl
  have hlI : (link : Int) < (s.last.length : Int) := by omega
  have hl0 : (0 : Int) ≤ (link : Int) := by omega
  have hh := fun W hW => rhead_any (w := W) (a := a) (n := n) (c := c) (l := l) s.short hW
  have hnR := headP_lt he
  have hnx := h_ok.next
  have hfw := h_ok.few
  have c4 := h.c4
  have hxb := h_ok.lst (s.last.getD link 0) (by rw [List.getD_eq_getElem?_getD, List.getElem?_eq_getElem hl]; exact List.getElem_mem hl)
  generalize headP l s.short = d at *
  have heI : (((d.err : Nat) : Int) != 0) = false := by rw [he]; rfl
  unfold oldP at ho
  have hc1 := fun W (hW : RJ W B b (.slice (some ⟨g, 0, none⟩) s.last.length cl) vh s) => rahead_any d.n s.next hW hnR hnx
  have hc2 := fun W (hW : RJ W B b (.slice (some ⟨g, 0, none⟩) s.last.length cl) vh s) (y : Nat) (hy : y < rgN s.short) => rahead_any y s.next hW hy hnx
  have hfy := fun W (hW : RJ W B b (.slice (some ⟨g, 0, none⟩) s.last.length cl) vh s) k q (hq : s.held[k]? = some (d.n, q)) (hne : ∀ x ∈ s.held.take k, x.1 ≠ d.n) => rfind_yes hW (by omega) hq hne
  have hfn := fun W (hW : RJ W B b (.slice (some ⟨g, 0, none⟩) s.last.length cl) vh s) (hq : getP s.held d.n = none) => rfind_no d.n hW (by omega) hq
  generalize aheadI (rgN s.short) s.next d.n = A at hc1 ho
  replace hc1 := Lib.hid hc1
  generalize s.last.getD link 0 = x at *
  by_cases hA : A < 0
  · clear ho hc2 hfy hfn hxb
    go_enter Try.func26, Try.ntmps26
    go_wp2_with (first | (go_at_call 19; refine (hh _ hB).mono ?_; rintro e w1 ⟨v, rfl, hv, hb⟩; obtain ⟨av, cv, rfl⟩ := own_slice hv; simp only [Hd.res]; have h1 := h.below hb; have g0 := h1.c0; have g2 := h1.c2; have g3 := h1.c3; have cg1 := (hb.cell (p := ⟨g, link, none⟩) hg).trans cg) | (go_at_call 34; refine (hc1.out _ h1).mono ?_; rintro e w' ⟨rfl, rfl⟩))
    go_ret2
    exact ⟨rfl, hb⟩
  · have hA0 : decide (A < 0) = false := by simpa using hA
    clear hA
    cases hgp : getP s.held d.n with
    | some pc =>
      obtain ⟨k, hq, hne⟩ := find_ex hgp
      have hfd := Lib.hid (fun W hW => hfy W hW k pc hq hne)
      clear ho hc2 hfy hfn hxb hgp hq hne
      go_enter Try.func26, Try.ntmps26
      go_wp2_with (first | (go_at_call 19; refine (hh _ hB).mono ?_; rintro e w1 ⟨v, rfl, hv, hb⟩; obtain ⟨av, cv, rfl⟩ := own_slice hv; simp only [Hd.res]; have h1 := h.below hb; have g0 := h1.c0; have g2 := h1.c2; have g3 := h1.c3; have cg1 := (hb.cell (p := ⟨g, link, none⟩) hg).trans cg) | (go_at_call 34; refine (hc1.out _ h1).mono ?_; rintro e w' ⟨rfl, rfl⟩) | (go_at_call 35; refine (hfd.out _ h1).mono ?_; rintro e w' ⟨rfl, rfl⟩))
      go_ret2
      exact ⟨rfl, hb⟩
    | none =>
      have hfd := Lib.hid (fun W hW => hfn W hW hgp)
      have hx0 : 0 ≤ x ∧ A ≤ aheadI (rgN s.short) s.next x.toNat := by
        rw [hgp, hA0] at ho
        simp only [Option.isSome_none, Bool.false_or, Bool.or_false, Bool.and_eq_true, decide_eq_true_eq] at ho
        exact ho
      obtain ⟨y, rfl⟩ := Int.eq_ofNat_of_zero_le hx0.1
      have hx1 : A ≤ aheadI (rgN s.short) s.next y := hx0.2
      have hy : y < rgN s.short := by omega
      replace hc2 := fun W hW => (hc2 W hW y hy).mono (fun e w1 he => And.intro he.1 he.2.symm)
      generalize aheadI (rgN s.short) s.next y = A2 at hc2 hx1
      replace hc2 := Lib.hid hc2
      have hA2 : 0 ≤ A2 := by have := of_decide_eq_false hA0; omega
      clear ho hx0 hxb hfy hfn hgp
      go_enter Try.func26, Try.ntmps26
      go_wp2_with (first | (go_at_call 19; refine (hh _ hB).mono ?_; rintro e w1 ⟨v, rfl, hv, hb⟩; obtain ⟨av, cv, rfl⟩ := own_slice hv; simp only [Hd.res]; have h1 := h.below hb; have g0 := h1.c0; have g2 := h1.c2; have g3 := h1.c3; have cg1 := (hb.cell (p := ⟨g, link, none⟩) hg).trans cg) | (go_at_call 34; refine (hc1.out _ h1).mono ?_; rintro e w' ⟨rfl, rfl⟩) | (go_at_call 35; refine (hfd.out _ h1).mono ?_; rintro e w' ⟨rfl, rfl⟩))
      go_quiet ((go_at_call 34; exact Calls.quiet_of_same (hc2.out _ (h1.drewN _))))
      go_wp2_with fail
      go_ret2
      exact ⟨rfl, below_drewN hb _⟩
set_option maxRecDepth 100000 in
set_option maxHeartbeats 4000000 in
theorem radd_ok {w : World} {B b : Nat} {vl vh : Value} {s : JS} {a : Option Addr} {n c : Nat} {l : List UInt8} (link : Nat) (h : RJ w B b vl vh s) (h_ok : Ok s) (h64 : s.held.length ≤ 64) (hB : Bts w a n c l) (hn : l.length ≤ 100000) (hl : link < s.last.length) (he : (headP l s.short).err = 0) (ho : oldP s link (headP l s.short).n = false) :
    Calls Try.prog 26 #[.pointer (some ⟨b, 0, none⟩), .int .i64 (link : Nat), .slice a n c] w fun e w' => ∃ v L t vh', e = .returned (.tuple #[v, .int .i64 0]) ∧
      Goes (putP s link (headP l s.short).n ⟨(headP l s.short).first, (headP l s.short).last, (headP l s.short).body⟩) L t ∧ RJ w' B b vl vh' t ∧ Fr w' w.heap.size v L ∧ ButOf (RFoot b vl vh) w w' ∧ Next w vh vh' := by
  obtain ⟨ah, ch, rfl⟩ := h.slice
  have c0 := h.c0
  have c2 := h.c2
  have c3 := h.c3
  obtain ⟨g, hg, ⟨cl, rfl⟩, cg⟩ := row_at h.row hl
  have hlI : (link : Int) < (s.last.length : Int) := by omega
  have hl0 : (0 : Int) ≤ (link : Int) := by omega
  have hh := fun W hW => rhead_any (w := W) (a := a) (n := n) (c := c) (l := l) s.short hW
  have hnR := headP_lt he
  have hnx := h_ok.next
  have hfw := h_ok.few
  have c4 := h.c4
  have hxb := h_ok.lst (s.last.getD link 0) (by rw [List.getD_eq_getElem?_getD, List.getElem?_eq_getElem hl]; exact List.getElem_mem hl)
  have hbl := Nat.le_trans (headP_len (l := l) (short := s.short)) hn
  generalize headP l s.short = d at *
  have heI : (((d.err : Nat) : Int) != 0) = false := by rw [he]; rfl
  have hn24 : d.n < 16777216 := by have := rgN_two s.short; omega
  unfold oldP at ho
  simp only [Bool.or_eq_false_iff, Bool.and_eq_false_iff, decide_eq_false_iff_not] at ho
  obtain ⟨⟨hA, hgp0⟩, hlast⟩ := ho
  replace hgp0 : getP s.held d.n = none := by cases hc : getP s.held d.n with | none => rfl | some _ => rw [hc] at hgp0; cases hgp0
  have hk0 := h_ok.put (link := link) (p := ⟨d.first, d.last, d.body⟩) hnR (by omega) h64 hbl
  have hc1 := fun W (hW : RJ W B b (.slice (some ⟨g, 0, none⟩) s.last.length cl) (.slice ah s.held.length ch) s) => rahead_any d.n s.next hW hnR hnx
  have hc2 := fun W (hW : RJ W B b (.slice (some ⟨g, 0, none⟩) s.last.length cl) (.slice ah s.held.length ch) s) (y : Nat) (hy : y < rgN s.short) => rahead_any y s.next hW hy hnx
  have hfd := fun W (hW : RJ W B b (.slice (some ⟨g, 0, none⟩) s.last.length cl) (.slice ah s.held.length ch) s) => rfind_no d.n hW (by omega) hgp0
  generalize aheadI (rgN s.short) s.next d.n = A at hc1 hA hlast
  have hA0 : decide (A < 0) = false := by simpa using hA
  clear hA
  replace hc1 := Lib.hid hc1
  replace hfd := Lib.hid hfd
  replace hgp0 := Lib.hid hgp0
  replace hk0 := Lib.hid hk0
  obtain ⟨ip, hip, hz0, hz1, hz2⟩ := info_parts info_piece
  replace hip := Lib.hid hip
  obtain ⟨ir, hir, hy0, hy1, hy2⟩ := info_parts info_rows
  replace hir := Lib.hid hir
  generalize s.last.getD link 0 = x at *
  by_cases hx : 0 ≤ x
  · obtain ⟨y, rfl⟩ := Int.eq_ofNat_of_zero_le hx
    have hx1 : ¬ A ≤ aheadI (rgN s.short) s.next y := by
      rcases hlast with e | e
      · exact absurd hx e
      · exact e
    have hy : y < rgN s.short := by omega
    replace hc2 := fun W hW => (hc2 W hW y hy).mono (fun e w1 he => And.intro he.1 he.2.symm)
    generalize aheadI (rgN s.short) s.next y = A2 at hc2 hx1
    replace hc2 := Lib.hid hc2
    clear hlast hxb hx
    by_cases hA2 : 0 ≤ A2
    · have hAd : decide (A ≤ A2) = false := decide_eq_false hx1
      clear hx1
      go_enter Try.func26, Try.ntmps26
      go_wp2_with (first | (go_at_call 19; refine (hh _ hB).mono ?_; rintro e w1 ⟨v, rfl, hv, hb⟩; obtain ⟨av, cv, rfl⟩ := own_slice hv; simp only [Hd.res]; have h1 := h.below hb; have g0 := h1.c0; have g2 := h1.c2; have g3 := h1.c3; have cg1 := (hb.cell (p := ⟨g, link, none⟩) hg).trans cg) | (go_at_call 34; refine (hc1.out _ h1).mono ?_; rintro e w' ⟨rfl, rfl⟩) | (go_at_call 35; refine (hfd.out _ h1).mono ?_; rintro e w' ⟨rfl, rfl⟩))
      go_quiet ((go_at_call 34; exact Calls.quiet_of_same (hc2.out _ (h1.drewN _))))
      have hbN : Below w.heap.size w (w1.drewN nq) := below_drewN hb nq
      have hv2 := own_below hv (below_drewN (Below.refl _ _) nq)
      generalize w1.drewN nq = w2 at *
      have h2 := h.below hbN
      clear hc2
      have k3 := h2.c3
      have cg2 := (hbN.cell (p := ⟨g, link, none⟩) hg).trans cg
      obtain ⟨cs, kb⟩ := own_blk h2.row
      have kf := kb.free link none
      have hx2 : w2.ownsRow B 5 1 (.slice av d.body.length cv) d.body.length (d.body.map bv) := own_mono hv2 (Nat.le_trans h.base (Nat.le_of_lt h.lt))
      obtain ⟨hJ3, hb3⟩ := h2.setLast (m := d.n) hl
      have hx3 := own_but hx2 hb3 (fun k hk e => own_own_ne hx2 h2.row (by decide) hk (by rw [e]; rfl))
      obtain ⟨vs, hp1, hp2⟩ := hJ3.held
      have k43 := hJ3.c4
      have hm1 : s.held.length + 1 ≤ maxLen := by unfold maxLen; omega
      have hm2 : (s.held.length + 1) * 40 ≤ 140737488355328 := by omega
      have e5 : (w2.setCell ⟨g, link, none⟩ (.int .i64 (d.n : Nat))).heap.size = w2.heap.size := by simp [World.setCell]
      have hsz3 : B ≤ (w2.setCell ⟨g, link, none⟩ (.int .i64 (d.n : Nat))).heap.size := Nat.le_trans hJ3.base (Nat.le_of_lt hJ3.lt)
      have hbN3 : ButOf (RFoot b (.slice (some ⟨g, 0, none⟩) s.last.length cl) (.slice ah s.held.length ch)) w (w2.setCell ⟨g, link, none⟩ (.int .i64 (d.n : Nat))) := (ButOf.of_below hbN).set _ (Or.inl (Or.inr (Or.inl rfl)))
      clear hc1 hfd hx2 h2 hB hh c0 c2 c3 c4 cg cg1 g0 g2 g3 h1 hv hb
      go_wp2_with (at_builtin; go_must (refine wp_appS_at rfl _ _ 61 rfl B 82 ip _ 4 40 Try.underlying61 hip.out hz0 hz1 hz2 rfl (by decide) _ _ _ rfl hp1 [.int .i64 (d.n : Nat), .bool d.first, .bool d.last, .slice av d.body.length cv] rfl (by intro u hu; simp at hu; rcases hu with rfl | rfl | rfl | rfl <;> rfl) (by exact congrArg (fun k => Value.slice (some ⟨k, 0, none⟩) 1 1) e5.symm) hm1 hm2 hsz3 ?_))
      intro v5 w5 ho5 hg5 hnx5
      obtain ⟨a5, c5, rfl⟩ := own_slice4 ho5
      obtain ⟨hJ5, hb5, k5, cs5, kb5⟩ := hJ3.put (n := d.n) (p := ⟨d.first, d.last, d.body⟩) hp1 hp2 hx3 ho5 hg5
      have f4 := kb5.free 4 none
      have hbS : ButOf (RFoot b (.slice (some ⟨g, 0, none⟩) s.last.length cl) (.slice ah s.held.length ch)) w (w5.setCell ⟨b, 4, none⟩ (.slice a5 (s.held.length + 1) c5)) := hbN3.trans hb5
      have hnxS : Next w (.slice ah s.held.length ch) (.slice a5 (s.held.length + 1) c5) := fun k hk => (hnx5 k hk).imp id (fun e => Nat.le_trans hbN3.size e)
      clear cg2 k3 hp1 hp2 hx3 ho5 hg5 hJ3 hb3 hb5 hbN3 hnx5 kb kf k43 hsz3 hbN
      have hvl : RJ (w5.setCell ⟨b, 4, none⟩ (.slice a5 (s.held.length + 1) c5)) B b (.slice (some ⟨g, 0, none⟩) s.last.length cl) (.slice a5 (s.held.length + 1) c5) (putP s link d.n ⟨d.first, d.last, d.body⟩) := hJ5
      clear hJ5
      go_wp2_with fail
      clear f4 kb5 k5
      go_loopw [15] (fun v15 wr => ∃ n, RAddInv w B b (.slice (some ⟨g, 0, none⟩) s.last.length cl) (.slice ah s.held.length ch) (putP s link d.n ⟨d.first, d.last, d.body⟩) v15 wr n) (fun v15 wr => Classical.epsilon fun n => RAddInv w B b (.slice (some ⟨g, 0, none⟩) s.last.length cl) (.slice ah s.held.length ch) (putP s link d.n ⟨d.first, d.last, d.body⟩) v15 wr n ∧ ∀ m, RAddInv w B b (.slice (some ⟨g, 0, none⟩) s.last.length cl) (.slice ah s.held.length ch) (putP s link d.n ⟨d.first, d.last, d.body⟩) v15 wr m → n ≤ m)
      case atStart => exact ⟨_, _, [], _, hvl, hk0.out, Fr.nil _ _, hbS, hnxS, (by simp [putP]; omega), (fun _ _ h => h), rfl⟩
      case round =>
        obtain ⟨s1, L, vh1, i1, i2, i3, i4, i5, i6, i7, i8⟩ := low_spec hrel
        have hstp := rstep_any i1 i2
        obtain ⟨ao, co, rfl⟩ := i3.slice
        replace i8 := Lib.hid i8
        clear hvl hbS hnxS hk0 hgp0
        cases hst : stepP s1 with
        | none =>
          have hG := Lib.hid (rAdd_goes i7 hst)
          replace hstp := Lib.hid (hstp.mono (fun e w7 he => StepE.none_ hst he))
          clear hst i7 i6 i2
          go_wp2_with (go_at_call 36; refine hstp.out.mono ?_; rintro e w7 ⟨rfl, hJ7, hb7⟩; have hF7 := i3.rj i1 hb7)
          go_ret2
          exact ⟨_, _, _, _, rfl, hG.out, hJ7, hF7, rAdd_foot i4 hb7, i5⟩
        | some td =>
          obtain ⟨t, dd⟩ := td
          have hdl := step_len hst
          cases dd with
          | nil =>
            have hnxt := fun v2 w2 vh2 hJ hn2 hF hb2 => rAdd_next (B := B) (b := b) (vl := .slice (some ⟨g, 0, none⟩) s.last.length cl) (vh := .slice ah s.held.length ch) (vh2 := vh2) (v2 := v2) (w2 := w2) i2 i6 i7 hst i4 i5 hJ hn2 hF hb2
            replace hstp := Lib.hid (hstp.mono (fun e w7 he => StepE.nil_ hst he))
            replace hnxt := Lib.hid hnxt
            clear hst i7 i6 i2 hdl
            go_wp2_with (go_at_call 36; refine hstp.out.mono ?_; rintro e w7 ⟨vh7, rfl, hJ7, hn7, hb7⟩; have hF7 := i3.rj i1 hb7; have hb8 := rAdd_foot i4 hb7)
            go_roundw
            case rel => exact ⟨_, (hnxt.out _ _ _ hJ7 hn7 (by rw [List.append_nil]; exact hF7) hb8).1⟩
            case measure => exact Nat.lt_of_le_of_lt (low_le (hnxt.out _ _ _ hJ7 hn7 (by rw [List.append_nil]; exact hF7) hb8).1) (by rw [i8.out]; exact (hnxt.out _ _ _ hJ7 hn7 (by rw [List.append_nil]; exact hF7) hb8).2)
          | cons x dd =>
            obtain rfl : dd = [] := by cases dd with | nil => rfl | cons _ _ => simp at hdl
            have hnxt := fun v2 w2 vh2 hJ hn2 hF hb2 => rAdd_next (B := B) (b := b) (vl := .slice (some ⟨g, 0, none⟩) s.last.length cl) (vh := .slice ah s.held.length ch) (vh2 := vh2) (v2 := v2) (w2 := w2) i2 i6 i7 hst i4 i5 hJ hn2 hF hb2
            replace hstp := Lib.hid (hstp.mono (fun e w7 he => StepE.dat_ hst he))
            replace hnxt := Lib.hid hnxt
            have hm3 : L.length + 1 ≤ maxLen := by unfold maxLen; omega
            have hm4 : (L.length + 1) * 24 ≤ 140737488355328 := by omega
            have hsz4 := i4.size
            clear hst i7 i6 i2 hdl
            go_wp2_with (first | (go_at_call 36; refine hstp.out.mono ?_; rintro e w7 ⟨gx, cx, vh7, rfl, hox, hJ7, hn7, hb7⟩; have hF7 := i3.rj i1 hb7; have hb8 := rAdd_foot i4 hb7; obtain ⟨xs, f1, f2⟩ := hF7.ex; have hsz7 := hb8.size) | (at_builtin; go_must (refine wp_app1_at rfl _ _ 23 rfl w.heap.size 27 ir _ 24 Try.underlying23 hir.out hy0 hy1 hy2 rfl _ _ _ rfl f1 (.slice (some ⟨gx, 0, none⟩) x.length cx) rfl rfl hm3 hm4 hsz7 ?_)))
            intro v8 w8 ho8 hg8 _
            have hF8 := Fr.snoc f1 f2 (own_mono hox hsz4) ho8 hg8
            have hJ8 := hJ7.grown f1 hg8
            have hb9 : ButOf (RFoot b (.slice (some ⟨g, 0, none⟩) s.last.length cl) (.slice ah s.held.length ch)) w w8 := hb8.after (ButOf.of_grown (K := fun k => (Value.slice ao L.length co).ownBlock = some k) hg8 (fun _ e => e)) (fun i hi e => absurd ((f1.lt i e).1) (by omega))
            obtain ⟨a8, c8, rfl⟩ := own_slice ho8
            have hfin := hnxt.out _ _ _ hJ8 hn7 hF8 hb9
            replace hfin := Lib.hid hfin
            clear ho8 hg8 f1 f2 hox hJ7 hb7 hb8 hF7 hF8 hJ8 hb9 hstp i1 i3 i4 i5 hnxt
            go_wp2_with fail
            go_roundw
            case rel => exact ⟨_, hfin.out.1⟩
            case measure => exact Nat.lt_of_le_of_lt (low_le hfin.out.1) (by rw [i8.out]; exact hfin.out.2)
    · have hAd : decide (0 ≤ A2) = false := decide_eq_false hA2
      clear hA2 hx1
      go_enter Try.func26, Try.ntmps26
      go_wp2_with (first | (go_at_call 19; refine (hh _ hB).mono ?_; rintro e w1 ⟨v, rfl, hv, hb⟩; obtain ⟨av, cv, rfl⟩ := own_slice hv; simp only [Hd.res]; have h1 := h.below hb; have g0 := h1.c0; have g2 := h1.c2; have g3 := h1.c3; have cg1 := (hb.cell (p := ⟨g, link, none⟩) hg).trans cg) | (go_at_call 34; refine (hc1.out _ h1).mono ?_; rintro e w' ⟨rfl, rfl⟩) | (go_at_call 35; refine (hfd.out _ h1).mono ?_; rintro e w' ⟨rfl, rfl⟩))
      go_quiet ((go_at_call 34; exact Calls.quiet_of_same (hc2.out _ (h1.drewN _))))
      have hbN : Below w.heap.size w (w1.drewN nq) := below_drewN hb nq
      have hv2 := own_below hv (below_drewN (Below.refl _ _) nq)
      generalize w1.drewN nq = w2 at *
      have h2 := h.below hbN
      clear hc2
      have k3 := h2.c3
      have cg2 := (hbN.cell (p := ⟨g, link, none⟩) hg).trans cg
      obtain ⟨cs, kb⟩ := own_blk h2.row
      have kf := kb.free link none
      have hx2 : w2.ownsRow B 5 1 (.slice av d.body.length cv) d.body.length (d.body.map bv) := own_mono hv2 (Nat.le_trans h.base (Nat.le_of_lt h.lt))
      obtain ⟨hJ3, hb3⟩ := h2.setLast (m := d.n) hl
      have hx3 := own_but hx2 hb3 (fun k hk e => own_own_ne hx2 h2.row (by decide) hk (by rw [e]; rfl))
      obtain ⟨vs, hp1, hp2⟩ := hJ3.held
      have k43 := hJ3.c4
      have hm1 : s.held.length + 1 ≤ maxLen := by unfold maxLen; omega
      have hm2 : (s.held.length + 1) * 40 ≤ 140737488355328 := by omega
      have e5 : (w2.setCell ⟨g, link, none⟩ (.int .i64 (d.n : Nat))).heap.size = w2.heap.size := by simp [World.setCell]
      have hsz3 : B ≤ (w2.setCell ⟨g, link, none⟩ (.int .i64 (d.n : Nat))).heap.size := Nat.le_trans hJ3.base (Nat.le_of_lt hJ3.lt)
      have hbN3 : ButOf (RFoot b (.slice (some ⟨g, 0, none⟩) s.last.length cl) (.slice ah s.held.length ch)) w (w2.setCell ⟨g, link, none⟩ (.int .i64 (d.n : Nat))) := (ButOf.of_below hbN).set _ (Or.inl (Or.inr (Or.inl rfl)))
      clear hc1 hfd hx2 h2 hB hh c0 c2 c3 c4 cg cg1 g0 g2 g3 h1 hv hb
      go_wp2_with (at_builtin; go_must (refine wp_appS_at rfl _ _ 61 rfl B 82 ip _ 4 40 Try.underlying61 hip.out hz0 hz1 hz2 rfl (by decide) _ _ _ rfl hp1 [.int .i64 (d.n : Nat), .bool d.first, .bool d.last, .slice av d.body.length cv] rfl (by intro u hu; simp at hu; rcases hu with rfl | rfl | rfl | rfl <;> rfl) (by exact congrArg (fun k => Value.slice (some ⟨k, 0, none⟩) 1 1) e5.symm) hm1 hm2 hsz3 ?_))
      intro v5 w5 ho5 hg5 hnx5
      obtain ⟨a5, c5, rfl⟩ := own_slice4 ho5
      obtain ⟨hJ5, hb5, k5, cs5, kb5⟩ := hJ3.put (n := d.n) (p := ⟨d.first, d.last, d.body⟩) hp1 hp2 hx3 ho5 hg5
      have f4 := kb5.free 4 none
      have hbS : ButOf (RFoot b (.slice (some ⟨g, 0, none⟩) s.last.length cl) (.slice ah s.held.length ch)) w (w5.setCell ⟨b, 4, none⟩ (.slice a5 (s.held.length + 1) c5)) := hbN3.trans hb5
      have hnxS : Next w (.slice ah s.held.length ch) (.slice a5 (s.held.length + 1) c5) := fun k hk => (hnx5 k hk).imp id (fun e => Nat.le_trans hbN3.size e)
      clear cg2 k3 hp1 hp2 hx3 ho5 hg5 hJ3 hb3 hb5 hbN3 hnx5 kb kf k43 hsz3 hbN
      have hvl : RJ (w5.setCell ⟨b, 4, none⟩ (.slice a5 (s.held.length + 1) c5)) B b (.slice (some ⟨g, 0, none⟩) s.last.length cl) (.slice a5 (s.held.length + 1) c5) (putP s link d.n ⟨d.first, d.last, d.body⟩) := hJ5
      clear hJ5
      go_wp2_with fail
      clear f4 kb5 k5
      go_loopw [15] (fun v15 wr => ∃ n, RAddInv w B b (.slice (some ⟨g, 0, none⟩) s.last.length cl) (.slice ah s.held.length ch) (putP s link d.n ⟨d.first, d.last, d.body⟩) v15 wr n) (fun v15 wr => Classical.epsilon fun n => RAddInv w B b (.slice (some ⟨g, 0, none⟩) s.last.length cl) (.slice ah s.held.length ch) (putP s link d.n ⟨d.first, d.last, d.body⟩) v15 wr n ∧ ∀ m, RAddInv w B b (.slice (some ⟨g, 0, none⟩) s.last.length cl) (.slice ah s.held.length ch) (putP s link d.n ⟨d.first, d.last, d.body⟩) v15 wr m → n ≤ m)
      case atStart => exact ⟨_, _, [], _, hvl, hk0.out, Fr.nil _ _, hbS, hnxS, (by simp [putP]; omega), (fun _ _ h => h), rfl⟩
      case round =>
        obtain ⟨s1, L, vh1, i1, i2, i3, i4, i5, i6, i7, i8⟩ := low_spec hrel
        have hstp := rstep_any i1 i2
        obtain ⟨ao, co, rfl⟩ := i3.slice
        replace i8 := Lib.hid i8
        clear hvl hbS hnxS hk0 hgp0
        cases hst : stepP s1 with
        | none =>
          have hG := Lib.hid (rAdd_goes i7 hst)
          replace hstp := Lib.hid (hstp.mono (fun e w7 he => StepE.none_ hst he))
          clear hst i7 i6 i2
          go_wp2_with (go_at_call 36; refine hstp.out.mono ?_; rintro e w7 ⟨rfl, hJ7, hb7⟩; have hF7 := i3.rj i1 hb7)
          go_ret2
          exact ⟨_, _, _, _, rfl, hG.out, hJ7, hF7, rAdd_foot i4 hb7, i5⟩
        | some td =>
          obtain ⟨t, dd⟩ := td
          have hdl := step_len hst
          cases dd with
          | nil =>
            have hnxt := fun v2 w2 vh2 hJ hn2 hF hb2 => rAdd_next (B := B) (b := b) (vl := .slice (some ⟨g, 0, none⟩) s.last.length cl) (vh := .slice ah s.held.length ch) (vh2 := vh2) (v2 := v2) (w2 := w2) i2 i6 i7 hst i4 i5 hJ hn2 hF hb2
            replace hstp := Lib.hid (hstp.mono (fun e w7 he => StepE.nil_ hst he))
            replace hnxt := Lib.hid hnxt
            clear hst i7 i6 i2 hdl
            go_wp2_with (go_at_call 36; refine hstp.out.mono ?_; rintro e w7 ⟨vh7, rfl, hJ7, hn7, hb7⟩; have hF7 := i3.rj i1 hb7; have hb8 := rAdd_foot i4 hb7)
            go_roundw
            case rel => exact ⟨_, (hnxt.out _ _ _ hJ7 hn7 (by rw [List.append_nil]; exact hF7) hb8).1⟩
            case measure => exact Nat.lt_of_le_of_lt (low_le (hnxt.out _ _ _ hJ7 hn7 (by rw [List.append_nil]; exact hF7) hb8).1) (by rw [i8.out]; exact (hnxt.out _ _ _ hJ7 hn7 (by rw [List.append_nil]; exact hF7) hb8).2)
          | cons x dd =>
            obtain rfl : dd = [] := by cases dd with | nil => rfl | cons _ _ => simp at hdl
            have hnxt := fun v2 w2 vh2 hJ hn2 hF hb2 => rAdd_next (B := B) (b := b) (vl := .slice (some ⟨g, 0, none⟩) s.last.length cl) (vh := .slice ah s.held.length ch) (vh2 := vh2) (v2 := v2) (w2 := w2) i2 i6 i7 hst i4 i5 hJ hn2 hF hb2
            replace hstp := Lib.hid (hstp.mono (fun e w7 he => StepE.dat_ hst he))
            replace hnxt := Lib.hid hnxt
            have hm3 : L.length + 1 ≤ maxLen := by unfold maxLen; omega
            have hm4 : (L.length + 1) * 24 ≤ 140737488355328 := by omega
            have hsz4 := i4.size
            clear hst i7 i6 i2 hdl
            go_wp2_with (first | (go_at_call 36; refine hstp.out.mono ?_; rintro e w7 ⟨gx, cx, vh7, rfl, hox, hJ7, hn7, hb7⟩; have hF7 := i3.rj i1 hb7; have hb8 := rAdd_foot i4 hb7; obtain ⟨xs, f1, f2⟩ := hF7.ex; have hsz7 := hb8.size) | (at_builtin; go_must (refine wp_app1_at rfl _ _ 23 rfl w.heap.size 27 ir _ 24 Try.underlying23 hir.out hy0 hy1 hy2 rfl _ _ _ rfl f1 (.slice (some ⟨gx, 0, none⟩) x.length cx) rfl rfl hm3 hm4 hsz7 ?_)))
            intro v8 w8 ho8 hg8 _
            have hF8 := Fr.snoc f1 f2 (own_mono hox hsz4) ho8 hg8
            have hJ8 := hJ7.grown f1 hg8
            have hb9 : ButOf (RFoot b (.slice (some ⟨g, 0, none⟩) s.last.length cl) (.slice ah s.held.length ch)) w w8 := hb8.after (ButOf.of_grown (K := fun k => (Value.slice ao L.length co).ownBlock = some k) hg8 (fun _ e => e)) (fun i hi e => absurd ((f1.lt i e).1) (by omega))
            obtain ⟨a8, c8, rfl⟩ := own_slice ho8
            have hfin := hnxt.out _ _ _ hJ8 hn7 hF8 hb9
            replace hfin := Lib.hid hfin
            clear ho8 hg8 f1 f2 hox hJ7 hb7 hb8 hF7 hF8 hJ8 hb9 hstp i1 i3 i4 i5 hnxt
            go_wp2_with fail
            go_roundw
            case rel => exact ⟨_, hfin.out.1⟩
            case measure => exact Nat.lt_of_le_of_lt (low_le hfin.out.1) (by rw [i8.out]; exact hfin.out.2)
  · have hx0 : decide (0 ≤ x) = false := by simpa using hx
    clear hlast hx hxb hc2
    go_enter Try.func26, Try.ntmps26
    go_upto_region 13 with (first | (go_at_call 19; refine (hh _ hB).mono ?_; rintro e w1 ⟨v, rfl, hv, hb⟩; obtain ⟨av, cv, rfl⟩ := own_slice hv; simp only [Hd.res]; have h1 := h.below hb; have g0 := h1.c0; have g2 := h1.c2; have g3 := h1.c3; have cg1 := (hb.cell (p := ⟨g, link, none⟩) hg).trans cg) | (go_at_call 34; refine (hc1.out _ h1).mono ?_; rintro e w' ⟨rfl, rfl⟩) | (go_at_call 35; refine (hfd.out _ h1).mono ?_; rintro e w' ⟨rfl, rfl⟩))
    have hbN := hb
    have h2 := h1
    have k3 := h2.c3
    have cg2 := (hbN.cell (p := ⟨g, link, none⟩) hg).trans cg
    obtain ⟨cs, kb⟩ := own_blk h2.row
    have kf := kb.free link none
    have hx2 : w1.ownsRow B 5 1 (.slice av d.body.length cv) d.body.length (d.body.map bv) := own_mono hv (Nat.le_trans h.base (Nat.le_of_lt h.lt))
    obtain ⟨hJ3, hb3⟩ := h2.setLast (m := d.n) hl
    have hx3 := own_but hx2 hb3 (fun k hk e => own_own_ne hx2 h2.row (by decide) hk (by rw [e]; rfl))
    obtain ⟨vs, hp1, hp2⟩ := hJ3.held
    have k43 := hJ3.c4
    have hm1 : s.held.length + 1 ≤ maxLen := by unfold maxLen; omega
    have hm2 : (s.held.length + 1) * 40 ≤ 140737488355328 := by omega
    have e5 : (w1.setCell ⟨g, link, none⟩ (.int .i64 (d.n : Nat))).heap.size = w1.heap.size := by simp [World.setCell]
    have hsz3 : B ≤ (w1.setCell ⟨g, link, none⟩ (.int .i64 (d.n : Nat))).heap.size := Nat.le_trans hJ3.base (Nat.le_of_lt hJ3.lt)
    have hbN3 : ButOf (RFoot b (.slice (some ⟨g, 0, none⟩) s.last.length cl) (.slice ah s.held.length ch)) w (w1.setCell ⟨g, link, none⟩ (.int .i64 (d.n : Nat))) := (ButOf.of_below hbN).set _ (Or.inl (Or.inr (Or.inl rfl)))
    clear hc1 hfd hx2 h2 hB hh c0 c2 c3 c4 cg cg1 g0 g2 g3 h1 hv hb
    go_wp2_with (at_builtin; go_must (refine wp_appS_at rfl _ _ 61 rfl B 82 ip _ 4 40 Try.underlying61 hip.out hz0 hz1 hz2 rfl (by decide) _ _ _ rfl hp1 [.int .i64 (d.n : Nat), .bool d.first, .bool d.last, .slice av d.body.length cv] rfl (by intro u hu; simp at hu; rcases hu with rfl | rfl | rfl | rfl <;> rfl) (by exact congrArg (fun k => Value.slice (some ⟨k, 0, none⟩) 1 1) e5.symm) hm1 hm2 hsz3 ?_))
    intro v5 w5 ho5 hg5 hnx5
    obtain ⟨a5, c5, rfl⟩ := own_slice4 ho5
    obtain ⟨hJ5, hb5, k5, cs5, kb5⟩ := hJ3.put (n := d.n) (p := ⟨d.first, d.last, d.body⟩) hp1 hp2 hx3 ho5 hg5
    have f4 := kb5.free 4 none
    have hbS : ButOf (RFoot b (.slice (some ⟨g, 0, none⟩) s.last.length cl) (.slice ah s.held.length ch)) w (w5.setCell ⟨b, 4, none⟩ (.slice a5 (s.held.length + 1) c5)) := hbN3.trans hb5
    have hnxS : Next w (.slice ah s.held.length ch) (.slice a5 (s.held.length + 1) c5) := fun k hk => (hnx5 k hk).imp id (fun e => Nat.le_trans hbN3.size e)
    clear cg2 k3 hp1 hp2 hx3 ho5 hg5 hJ3 hb3 hb5 hbN3 hnx5 kb kf k43 hsz3 hbN
    have hvl : RJ (w5.setCell ⟨b, 4, none⟩ (.slice a5 (s.held.length + 1) c5)) B b (.slice (some ⟨g, 0, none⟩) s.last.length cl) (.slice a5 (s.held.length + 1) c5) (putP s link d.n ⟨d.first, d.last, d.body⟩) := hJ5
    clear hJ5
    go_wp2_with fail
    clear f4 kb5 k5
    go_loopw [15] (fun v15 wr => ∃ n, RAddInv w B b (.slice (some ⟨g, 0, none⟩) s.last.length cl) (.slice ah s.held.length ch) (putP s link d.n ⟨d.first, d.last, d.body⟩) v15 wr n) (fun v15 wr => Classical.epsilon fun n => RAddInv w B b (.slice (some ⟨g, 0, none⟩) s.last.length cl) (.slice ah s.held.length ch) (putP s link d.n ⟨d.first, d.last, d.body⟩) v15 wr n ∧ ∀ m, RAddInv w B b (.slice (some ⟨g, 0, none⟩) s.last.length cl) (.slice ah s.held.length ch) (putP s link d.n ⟨d.first, d.last, d.body⟩) v15 wr m → n ≤ m)
    case atStart => exact ⟨_, _, [], _, hvl, hk0.out, Fr.nil _ _, hbS, hnxS, (by simp [putP]; omega), (fun _ _ h => h), rfl⟩
    case round =>
      obtain ⟨s1, L, vh1, i1, i2, i3, i4, i5, i6, i7, i8⟩ := low_spec hrel
      have hstp := rstep_any i1 i2
      obtain ⟨ao, co, rfl⟩ := i3.slice
      replace i8 := Lib.hid i8
      clear hvl hbS hnxS hk0 hgp0
      cases hst : stepP s1 with
      | none =>
        have hG := Lib.hid (rAdd_goes i7 hst)
        replace hstp := Lib.hid (hstp.mono (fun e w7 he => StepE.none_ hst he))
        clear hst i7 i6 i2
        go_wp2_with (go_at_call 36; refine hstp.out.mono ?_; rintro e w7 ⟨rfl, hJ7, hb7⟩; have hF7 := i3.rj i1 hb7)
        go_ret2
        exact ⟨_, _, _, _, rfl, hG.out, hJ7, hF7, rAdd_foot i4 hb7, i5⟩
      | some td =>
        obtain ⟨t, dd⟩ := td
        have hdl := step_len hst
        cases dd with
        | nil =>
          have hnxt := fun v2 w2 vh2 hJ hn2 hF hb2 => rAdd_next (B := B) (b := b) (vl := .slice (some ⟨g, 0, none⟩) s.last.length cl) (vh := .slice ah s.held.length ch) (vh2 := vh2) (v2 := v2) (w2 := w2) i2 i6 i7 hst i4 i5 hJ hn2 hF hb2
          replace hstp := Lib.hid (hstp.mono (fun e w7 he => StepE.nil_ hst he))
          replace hnxt := Lib.hid hnxt
          clear hst i7 i6 i2 hdl
          go_wp2_with (go_at_call 36; refine hstp.out.mono ?_; rintro e w7 ⟨vh7, rfl, hJ7, hn7, hb7⟩; have hF7 := i3.rj i1 hb7; have hb8 := rAdd_foot i4 hb7)
          go_roundw
          case rel => exact ⟨_, (hnxt.out _ _ _ hJ7 hn7 (by rw [List.append_nil]; exact hF7) hb8).1⟩
          case measure => exact Nat.lt_of_le_of_lt (low_le (hnxt.out _ _ _ hJ7 hn7 (by rw [List.append_nil]; exact hF7) hb8).1) (by rw [i8.out]; exact (hnxt.out _ _ _ hJ7 hn7 (by rw [List.append_nil]; exact hF7) hb8).2)
        | cons x dd =>
          obtain rfl : dd = [] := by cases dd with | nil => rfl | cons _ _ => simp at hdl
          have hnxt := fun v2 w2 vh2 hJ hn2 hF hb2 => rAdd_next (B := B) (b := b) (vl := .slice (some ⟨g, 0, none⟩) s.last.length cl) (vh := .slice ah s.held.length ch) (vh2 := vh2) (v2 := v2) (w2 := w2) i2 i6 i7 hst i4 i5 hJ hn2 hF hb2
          replace hstp := Lib.hid (hstp.mono (fun e w7 he => StepE.dat_ hst he))
          replace hnxt := Lib.hid hnxt
          have hm3 : L.length + 1 ≤ maxLen := by unfold maxLen; omega
          have hm4 : (L.length + 1) * 24 ≤ 140737488355328 := by omega
          have hsz4 := i4.size
          clear hst i7 i6 i2 hdl
          go_wp2_with (first | (go_at_call 36; refine hstp.out.mono ?_; rintro e w7 ⟨gx, cx, vh7, rfl, hox, hJ7, hn7, hb7⟩; have hF7 := i3.rj i1 hb7; have hb8 := rAdd_foot i4 hb7; obtain ⟨xs, f1, f2⟩ := hF7.ex; have hsz7 := hb8.size) | (at_builtin; go_must (refine wp_app1_at rfl _ _ 23 rfl w.heap.size 27 ir _ 24 Try.underlying23 hir.out hy0 hy1 hy2 rfl _ _ _ rfl f1 (.slice (some ⟨gx, 0, none⟩) x.length cx) rfl rfl hm3 hm4 hsz7 ?_)))
          intro v8 w8 ho8 hg8 _
          have hF8 := Fr.snoc f1 f2 (own_mono hox hsz4) ho8 hg8
          have hJ8 := hJ7.grown f1 hg8
          have hb9 : ButOf (RFoot b (.slice (some ⟨g, 0, none⟩) s.last.length cl) (.slice ah s.held.length ch)) w w8 := hb8.after (ButOf.of_grown (K := fun k => (Value.slice ao L.length co).ownBlock = some k) hg8 (fun _ e => e)) (fun i hi e => absurd ((f1.lt i e).1) (by omega))
          obtain ⟨a8, c8, rfl⟩ := own_slice ho8
          have hfin := hnxt.out _ _ _ hJ8 hn7 hF8 hb9
          replace hfin := Lib.hid hfin
          clear ho8 hg8 f1 f2 hox hJ7 hb7 hb8 hF7 hF8 hJ8 hb9 hstp i1 i3 i4 i5 hnxt
          go_wp2_with fail
          go_roundw
          case rel => exact ⟨_, hfin.out.1⟩
          case measure => exact Nat.lt_of_le_of_lt (low_le hfin.out.1) (by rw [i8.out]; exact hfin.out.2)
end Go.Proofs.Ytglmlhbchfgliaa
