/-
  Numbers are passed by: plainly, and the program's walk. No conditions.
-/
import Derived.Test.YtglmlhbchfgliaaMuNew
import Derived.Test.YtglmlhbchfgliaaZed
namespace Go.Proofs.Ytglmlhbchfgliaa
open Go.RowKit Go.Maps
theorem DMap.has_lit {D : DataW Value} {l : List (Nat × Value)} (h : DMap D l) {kl : Lit} (_ : WideAt.IsKeyLit kl) (hh : Maps.has D kl = true) : ∃ p ∈ l, nk p.1 = kl := by
  obtain ⟨es, rfl, hp⟩ := h.ex
  rw [has_eq, perm_any hp, List.any_eq_true] at hh
  obtain ⟨x, hx, he⟩ := hh
  obtain ⟨p, hp1, rfl⟩ := List.mem_map.1 hx
  exact ⟨p, hp1, WideAt.sameKey_eq he⟩
/-- what is passed by -/
def keepP (R next n : Nat) (m : Nat) : Bool := decide (¬ aheadI R next m < (n : Int))
def passP (s : JS) (n : Nat) : JS := { s with held := s.held.filter (fun p => keepP (rgN s.short) s.next n p.1), next := (s.next + n) % rgN s.short }
theorem invK : ∀ key kl, keyOf Try.prog 3 key = some kl → ∃ x, key = Value.int .i64 x := fun key kl hkey => by
  obtain ⟨x, rfl, _⟩ := Maps.keyOf_int_inv Try.underlying3 hkey
  exact ⟨x, rfl⟩
theorem invV : ∀ v y, asIs v = some y → ∃ c : Value, v = id c := fun v _ _ => ⟨v, rfl⟩
theorem aheadI_le {R base n : Nat} (hR : 0 < R) : -1 ≤ aheadI R base n ∧ aheadI R base n < R := by
  unfold aheadI
  have := Nat.mod_lt (n + R - base) hR
  split <;> omega
theorem pass_drop {R next n m a : Nat} (left : Lit → Bool) (hk : keepP R next n m = false) : (!decide (a = m) && (left (nk a) || keepP R next n a)) = (((left (nk a) && !(nk a).sameKey (nk m)) && !(nk a).sameKey (nk m)) || keepP R next n a) := by
  rw [nk_same]
  by_cases h : a = m
  · subst h; simp [hk]
  · simp [h]
theorem pass_keep {R next n m a : Nat} (left : Lit → Bool) (hk : keepP R next n m = true) : (left (nk a) || keepP R next n a) = ((left (nk a) && !(nk a).sameKey (nk m)) || keepP R next n a) := by
  rw [nk_same]
  by_cases h : a = m
  · subst h; simp [hk]
  · simp [h]
theorem ButOf.cell {K : Nat → Prop} {w w' : World} (hb : ButOf K w w') {p : Addr} (hlt : p.block < w.heap.size) (hn : ¬ K p.block) : w'.cell? p = w.cell? p := World.cell?_of_block (hb.block p.block hlt hn)
/-- behind the range: the map has what is kept; its block is as it was, and will be stored into -/
theorem pass_end {w1 wr : World} {B b bm : Nat} {vl : Value} {s : JS} (n : Nat) {D' : DataW Value} {hv cur : List (Nat × Value)} (h1 : Jo w1 B b bm vl s) (m3 : Parts w1 B hv s.held) (hbr : ButOf (fun k => k = bm ∨ k = w1.heap.size) w1 wr)
    (ho : wr.ownsMap Try.prog 3 asIs bm s.held.length D') (hD : DMap D' cur) (hcur : cur = hv.filter (fun p => keepP (rgN s.short) s.next n p.1)) :
    Blk wr b #[.bool true, .int .i64 (s.most : Nat), .bool s.short, .int .i64 (s.next : Nat), .map (some bm), vl, .int .i64 (wrap64 (s.lost : Nat))] 71 ∧
    Jo (wr.setCell ⟨b, 3, none⟩ (.int .i64 (((s.next + n) % rgN s.short : Nat) : Int))) B b bm vl (passP s n) := by
  obtain ⟨D, hv0, m1, m2, _⟩ := h1.map
  have nb : ∀ {v : Value} {E size m B' : Nat} {xs : List Value}, w1.ownsRow B' E size v m xs → ∀ k, v.ownBlock = some k → ¬ (k = bm ∨ k = w1.heap.size) := fun hr k hk e => by
    rcases e with e | e
    · exact ownsMap_own m1 hr (e ▸ hk)
    · have := (own_ownlt hr hk).2; omega
  have k1 : Blk wr b _ _ := h1.blk.but hbr (fun e => by
    rcases e with e | e
    · exact ownsMap_blk m1 h1.blk e
    · have := h1.lt; omega)
  have k2 := own_but h1.row hbr (nb h1.row)
  have k3 := (m3.but hbr (fun hp => nb hp)).filter (keepP (rgN s.short) s.next n)
  rw [← hcur] at k3
  have ho2 := ownsMap_tight ho hD
  rw [k3.length] at ho2
  have hb2 : ButOf (fun k => k = b) wr (wr.setCell ⟨b, 3, none⟩ (.int .i64 (((s.next + n) % rgN s.short : Nat) : Int))) := (ButOf.refl _ wr).set _ (Or.inl rfl)
  have nb2 : ∀ {v : Value} {E size m B' : Nat} {xs : List Value}, wr.ownsRow B' E size v m xs → E ≠ 71 → ∀ k, v.ownBlock = some k → ¬ k = b := fun hr hE k hk e => own_blk_ne hr k1 hE (e ▸ hk)
  refine ⟨k1, k1.set 3 _, own_but k2 hb2 (nb2 k2 (by decide)), ⟨D', cur, ownsMap_but ho2 hb2 (fun e => ownsMap_blk ho2 k1 e.symm), hD, k3.but hb2 (fun hp => nb2 hp (by decide))⟩, h1.base, h1.bmap, Nat.mod_lt _ (rgN_pos _), ?_, ?_, h1.lst⟩
  · exact Nat.le_trans (List.length_filter_le ..) h1.few
  · exact fun p hp => h1.num p (List.mem_filter.1 hp).1
set_option maxRecDepth 100000 in
set_option maxHeartbeats 2000000 in
theorem pass_any {w : World} {B b bm : Nat} {vl : Value} {s : JS} (n : Nat) (h : Jo w B b bm vl s) (hn : n ≤ 100000000) :
    Calls Try.prog 40 #[.pointer (some ⟨b, 0, none⟩), .int .i64 (n : Nat)] w fun e w' => e = .returned (.tuple #[]) ∧ Jo w' B b bm vl (passP s n) ∧ ButOf (fun k => k = b ∨ k = bm) w w' := by
  have g2 := h.c2
  have g3 := h.c3
  have g4 := h.c4
  have hR := rgN_two s.short
  go_enter Try.func40, Try.ntmps40
  go_wp2_with (first | (go_at_call 29; refine (from_any _ g2).mono ?_; rintro e w1 ⟨rfl, hF, hb⟩; have h1 := h.below hb; have g4' := h1.c4; obtain ⟨D, hv, m1, m2, m3⟩ := h1.map; simp only [fromV]) | (at_range; refine wpList_range_own _ rfl _ 69 rfl 3 75 lawInt Try.underlying69 _ bm _ D rfl m1 ?_; intro w2 hrg hg2 hs2))
  have hb2 : Below w1.heap.size w1 w2 := below_of_none hg2
  have hF2 := hF.below hb2
  have h2 := h1.below hb2
  have hbut : ButOf (fun k => k = b ∨ k = bm) w w2 := ButOf.of_below (hb.trans (hb2.mono hb.size))
  have hp2 := m3.but (K := fun _ => False) (ButOf.of_below hb2) (fun _ _ _ h => h)
  have hkey : ∀ p ∈ hv, p.1 < rgN s.short := fun p hp => by
    obtain ⟨q, hq, e⟩ := List.mem_map.1 (show p.1 ∈ s.held.map (·.1) from m3.keys ▸ List.mem_map.2 ⟨p, hp, rfl⟩)
    rw [← e]; exact h.num q hq
  have hall : ∀ p ∈ hv, Maps.has D (nk p.1) = true := fun p hp => by
    rw [m2.has, List.any_eq_true]; exact ⟨p, hp, by simp⟩
  have hr0 : w.heap.size + 1 < w1.heap.size := World.block_lt_of_cell? _ _ hF.ring
  go_frame
  go_loopw [5, 17, 18, 19, 20, 21, 22, 23, 24, 25, 26, 27, 28, 29, 30] (fun _ _ _ _ _ _ _ _ _ _ _ _ _ _ _ wr => ∃ (left : Lit → Bool) (cnt : Nat) (D' : DataW Value) (cur : List (Nat × Value)), wr.ranges Try.prog 3 asIs bm w1.heap.size s.held.length D' left cnt ∧ DMap D' cur ∧
    cur = hv.filter (fun p => left (nk p.1) || keepP (rgN s.short) s.next n p.1) ∧ ButOf (fun k => k = bm ∨ k = w1.heap.size) w2 wr ) (fun _ _ _ _ _ _ _ _ _ _ _ _ _ _ _ wr => wr.rangeLeft bm w1.heap.size)
  case atStart =>
    refine ⟨_, _, D, hv, hrg, m2, ?_, ButOf.refl _ _⟩
    exact (List.filter_eq_self.2 (fun p hp => by simp [hall p hp])).symm
  case round =>
    obtain ⟨left, cnt, D', cur, hrg', hD', hcur, hbt⟩ := hrel
    have nb1 : b ≠ bm := ownsMap_blk m1 h1.blk
    have nb2 : bm < w.heap.size := h.mlt
    have nb3 : b < w.heap.size := h.lt
    have hsw := hb.size
    have c4 : ∀ {w' : World}, ButOf (fun k => k = bm ∨ k = w1.heap.size) w2 w' → w'.cell? ⟨b, 4, none⟩ = some (.map (some bm)) := fun hx => (hx.cell (p := ⟨b, 4, none⟩) (by show b < _; omega) (by show ¬ (b = bm ∨ b = _); omega)).trans h2.c4
    have fr : ∀ {w' : World}, ButOf (fun k => k = bm ∨ k = w1.heap.size) w2 w' → From w' w.heap.size (w.heap.size + 1) (rgN s.short) s.next := fun hx =>
      ⟨(hx.cell (p := ⟨w.heap.size, 0, none⟩) (by show w.heap.size < _; omega) (by show ¬ (w.heap.size = bm ∨ w.heap.size = _); omega)).trans hF2.base, (hx.cell (p := ⟨w.heap.size + 1, 0, none⟩) (by show w.heap.size + 1 < _; omega) (by show ¬ (w.heap.size + 1 = bm ∨ w.heap.size + 1 = _); omega)).trans hF2.ring⟩
    go_wp2_with (at_next; refine wpList_next_ranges _ rfl _ rfl 3 lawInt asIs (Value.int .i64) id invK invV bm w1.heap.size s.held.length D' left cnt (by rfl) hrg' ?done ?more)
    case done =>
      intro hc0 hl0
      have hcur2 : cur = hv.filter (fun p => keepP (rgN s.short) s.next n p.1) := by rw [hcur]; exact List.filter_congr (fun p _ => by rw [hl0, Bool.false_or])
      have hfin := pass_end n h1 m3 ((ButOf.of_below hb2).trans hbt) hrg'.owns hD' hcur2
      have kb := hfin.1
      have k3 := kb.cell 3
      have k2 := kb.cell 2
      have kf := kb.free 3 none
      simp only [List.getElem?_toArray, List.getElem?_cons_succ, List.getElem?_cons_zero] at k3 k2
      have hnI : (n : Int) ≤ 100000000 := by omega
      have hxI : (s.next : Int) < 16777216 := by have := h.next; omega
      have hrem : ((s.next : Int) + (n : Int)).tmod (rgN s.short : Int) = (((s.next + n) % rgN s.short : Nat) : Int) := by rw [Int.tmod_eq_emod_of_nonneg (by omega), show (s.next : Int) + (n : Int) = ((s.next + n : Nat) : Int) by omega]; exact (Int.natCast_emod _ _).symm
      have hRz : ((rgN s.short : Int) == 0) = false := by rw [beq_eq_false_iff_ne]; omega
      have hR0 : ¬ rgN s.short = 0 := by omega
      have hwr : IntKind.i64.wrap ((s.next : Int) + (n : Int)) = (s.next : Int) + (n : Int) := by rw [IntKind.wrap_i64]; omega
      clear hrg' hcur hl0
      go_wp2_with fail
      -- REGION
      refine zed_start (S := fun W => W.cell? ⟨b, 3, none⟩ = some (.int .i64 (s.next : Nat)) ∧ W.cell? ⟨b, 2, none⟩ = some (.bool s.short)) (z := 15) (by kernel_rfl) ⟨k3, k2⟩ (fun hHeld => ?_)
      refine zed_take (i := 0) (v := ?_) rfl (by kernel_rfl) (by kernel_rfl) (by kernel_rfl) (by kernel_rfl) (by kernel_rfl) (fun _ _ _ h => h) (Or.inl ⟨by kernel_rfl, ?_⟩) (by assumption) ?_
      rotate_left
      · intro w hSw
        (try dsimp only at hSw)
        go_split_ands
        go_simp
        all_goals with_reducible rfl
      simp only [List.setIfInBounds_toArray, List.set_cons_zero, List.set_cons_succ]
      refine zed_take (i := 1) (v := ?_) rfl (by kernel_rfl) (by kernel_rfl) (by kernel_rfl) (by kernel_rfl) (by kernel_rfl) (fun _ _ _ h => h) (Or.inl ⟨by kernel_rfl, ?_⟩) (by assumption) ?_
      rotate_left
      · intro w hSw
        (try dsimp only at hSw)
        go_split_ands
        go_simp
        all_goals with_reducible rfl
      simp only [List.setIfInBounds_toArray, List.set_cons_zero, List.set_cons_succ]
      refine zed_take (i := 2) (v := ?_) rfl (by kernel_rfl) (by kernel_rfl) (by kernel_rfl) (by kernel_rfl) (by kernel_rfl) (fun _ _ _ h => h) (Or.inl ⟨by kernel_rfl, ?_⟩) (by assumption) ?_
      rotate_left
      · intro w hSw
        (try dsimp only at hSw)
        go_split_ands
        go_simp
        all_goals with_reducible rfl
      simp only [List.setIfInBounds_toArray, List.set_cons_zero, List.set_cons_succ]
      refine zed_take (i := 3) (v := ?_) rfl (by kernel_rfl) (by kernel_rfl) (by kernel_rfl) (by kernel_rfl) (by kernel_rfl) (fun _ _ _ h => h) (Or.inl ⟨by kernel_rfl, ?_⟩) (by assumption) ?_
      rotate_left
      · intro w hSw
        (try dsimp only at hSw)
        go_split_ands
        go_simp
        all_goals with_reducible rfl
      simp only [List.setIfInBounds_toArray, List.set_cons_zero, List.set_cons_succ]
      refine zed_take (i := 4) (v := ?_) rfl (by kernel_rfl) (by kernel_rfl) (by kernel_rfl) (by kernel_rfl) (by kernel_rfl) (fun _ _ _ h => h) (Or.inl ⟨by kernel_rfl, ?_⟩) (by assumption) ?_
      rotate_left
      · intro w hSw
        (try dsimp only at hSw)
        go_split_ands
        go_simp
        all_goals with_reducible rfl
      simp only [List.setIfInBounds_toArray, List.set_cons_zero, List.set_cons_succ]
      refine zed_take (i := 5) (v := ?_) rfl (by kernel_rfl) (by kernel_rfl) (by kernel_rfl) (by kernel_rfl) (by kernel_rfl) (fun _ _ _ h => h) (Or.inl ⟨by kernel_rfl, ?_⟩) (by assumption) ?_
      rotate_left
      · intro w hSw
        (try dsimp only at hSw)
        go_split_ands
        go_simp
        all_goals with_reducible rfl
      simp only [List.setIfInBounds_toArray, List.set_cons_zero, List.set_cons_succ]
      refine zed_take (i := 6) (v := ?_) rfl (by kernel_rfl) (by kernel_rfl) (by kernel_rfl) (by kernel_rfl) (by kernel_rfl) (fun _ _ _ h => h) (Or.inl ⟨by kernel_rfl, ?_⟩) (by assumption) ?_
      rotate_left
      · intro w hSw
        (try dsimp only at hSw)
        go_split_ands
        go_simp
        all_goals with_reducible rfl
      simp only [List.setIfInBounds_toArray, List.set_cons_zero, List.set_cons_succ]
      refine zed_take (i := 7) (v := ?_) rfl (by kernel_rfl) (by kernel_rfl) (by kernel_rfl) (by kernel_rfl) (by kernel_rfl) (fun _ _ _ h => h) (Or.inl ⟨by kernel_rfl, ?_⟩) (by assumption) ?_
      rotate_left
      · intro w hSw
        (try dsimp only at hSw)
        go_split_ands
        go_simp
        all_goals with_reducible rfl
      simp only [List.setIfInBounds_toArray, List.set_cons_zero, List.set_cons_succ]
      refine zed_take (i := 8) (v := ?_) rfl (by kernel_rfl) (by kernel_rfl) (by kernel_rfl) (by kernel_rfl) (by kernel_rfl) (fun _ _ _ h => h) (Or.inl ⟨by kernel_rfl, ?_⟩) (by assumption) ?_
      rotate_left
      · intro w hSw
        (try dsimp only at hSw)
        go_split_ands
        go_simp
        all_goals with_reducible rfl
      simp only [List.setIfInBounds_toArray, List.set_cons_zero, List.set_cons_succ]
      refine zed_take (i := 9) (v := ?_) rfl (by kernel_rfl) (by kernel_rfl) (by kernel_rfl) (by kernel_rfl) (by kernel_rfl) (fun _ _ _ h => h) (Or.inl ⟨by kernel_rfl, ?_⟩) (by assumption) ?_
      rotate_left
      · intro w hSw
        (try dsimp only at hSw)
        go_split_ands
        go_simp
        all_goals with_reducible rfl
      simp only [List.setIfInBounds_toArray, List.set_cons_zero, List.set_cons_succ]
      refine zed_take (i := 10) (v := ?_) rfl (by kernel_rfl) (by kernel_rfl) (by kernel_rfl) (by kernel_rfl) (by kernel_rfl) (fun _ _ _ h => h) (Or.inl ⟨by kernel_rfl, ?_⟩) (by assumption) ?_
      rotate_left
      · intro w hSw
        (try dsimp only at hSw)
        go_split_ands
        go_simp
        all_goals with_reducible rfl
      simp only [List.setIfInBounds_toArray, List.set_cons_zero, List.set_cons_succ]
      refine zed_do (i := 11) (by kernel_rfl) rfl (fun K hK => ?_)
      go_simp
      go_wp2_with (go_at_call 27; refine (ring_any _ _).mono ?_; rintro e w' ⟨rfl, rfl⟩)
      refine hK.out _ _ ?_ (fun hHeld => ?_)
      · exact ⟨k3, k2⟩
      clear hK K
      refine zed_take (i := 12) (v := ?_) rfl (by kernel_rfl) (by kernel_rfl) (by kernel_rfl) (by kernel_rfl) (by kernel_rfl) (fun _ _ _ h => h) (Or.inl ⟨by kernel_rfl, ?_⟩) (by assumption) ?_
      rotate_left
      · intro w hSw
        (try dsimp only at hSw)
        go_split_ands
        go_simp
        all_goals with_reducible rfl
      simp only [List.setIfInBounds_toArray, List.set_cons_zero, List.set_cons_succ]
      refine zed_take (i := 13) (v := ?_) rfl (by kernel_rfl) (by kernel_rfl) (by kernel_rfl) (by kernel_rfl) (by kernel_rfl) (fun _ _ _ h => h) (Or.inl ⟨by kernel_rfl, ?_⟩) (by assumption) ?_
      rotate_left
      · intro w hSw
        (try dsimp only at hSw)
        go_split_ands
        go_simp
        all_goals with_reducible rfl
      simp only [List.setIfInBounds_toArray, List.set_cons_zero, List.set_cons_succ]
      refine zed_take (i := 14) (v := ?_) rfl (by kernel_rfl) (by kernel_rfl) (by kernel_rfl) (by kernel_rfl) (by kernel_rfl) (fun _ _ _ h => h) (Or.inl ⟨by kernel_rfl, ?_⟩) (by assumption) ?_
      rotate_left
      · intro w hSw
        (try dsimp only at hSw)
        go_split_ands
        go_simp
        all_goals with_reducible rfl
      simp only [List.setIfInBounds_toArray, List.set_cons_zero, List.set_cons_succ]
      refine zed_end (by kernel_rfl) rfl (fun K hK => ?_)
      go_simp
      refine hK.out _ _ ?_
      clear hK K
      refine zed_done (by kernel_rfl) ?_ _
      -- END
      go_end0
      have hj := hfin.2
      simp only [Int.natCast_emod, Int.natCast_add] at hj
      refine ⟨rfl, hj.below (Below.refl _ _).drew, ?_⟩
      have hbw : ButOf (fun k => k = b ∨ k = bm) w wr := hbut.after hbt (fun i hi hK => by
        rcases hK with e | e
        · exact Or.inr e
        · omega)
      exact (hbw.set _ (Or.inl (Or.inl rfl))).drew
    case more =>
      intro x c kl y ps w3 cnt3 hkx hlk hvy hat hrg3 hlt3 hg3 hs3 hen
      obtain ⟨x', ex, rfl, hwf⟩ := Maps.keyOf_int_inv Try.underlying3 hkx
      obtain rfl : x = x' := by injection ex
      obtain ⟨p, hp, hpk⟩ := hD'.has_lit (show WideAt.IsKeyLit (.int .i64 x) from trivial) (has_true_of_atKey hat)
      have hph : p ∈ hv := by rw [hcur] at hp; exact (List.mem_filter.1 hp).1
      obtain ⟨m, u⟩ := p
      have hm := hkey _ hph
      obtain rfl : (m : Int) = x := by unfold nk at hpk; injection hpk
      have hm : m < rgN s.short := hm
      have hb3 : ButOf (fun k => k = bm ∨ k = w1.heap.size) w2 w3 := hbt.trans (ButOf.of_grown hg3 (fun k e => by cases e; exact Or.inr rfl))
      have g4w := c4 hb3
      have hF3 := fr hb3
      clear hvy
      by_cases hk : aheadI (rgN s.short) s.next m < (n : Int)
      · go_wp2_with (first | (go_at_call 37; refine (fromc_any hF3 hR h.next hm).mono ?_; rintro e w' ⟨rfl, rfl⟩) | (at_delete; refine wpList_delete_ranges _ rfl _ _ 69 3 rfl 75 lawInt Try.underlying69 asIs bm w1.heap.size s.held.length D' _ cnt3 (by rfl) hrg3 (.int .i64 m) (nk m) (by rfl) hkx ?_; intro w4 cnt4 hrg4 hle hturn; simp only [Act.put]))
        have hb4 : ButOf (fun k => k = bm ∨ k = w1.heap.size) w2 w4 := hb3.trans (ButOf.of_grown hturn.grown (fun k e => by cases e; exact Or.inl rfl))
        have hcur4 := hcur
        have hD4 := hD'.del m
        rw [hcur4, List.filter_filter] at hD4
        go_roundw
        case rel =>
          refine ⟨_, cnt4, _, _, hrg4, hD4, ?_, hb4⟩
          refine List.filter_congr (fun p _ => ?_)
          exact pass_drop _ (by unfold keepP; simpa using hk)
        case measure => rw [hrg4.left_eq, hrg'.left_eq]; omega
      · go_wp2_with (first | (go_at_call 37; refine (fromc_any hF3 hR h.next hm).mono ?_; rintro e w' ⟨rfl, rfl⟩))
        refine ⟨⟨_, cnt3, D', cur, hrg3, hD', ?_, hb3⟩, by rw [hrg3.left_eq, hrg'.left_eq]; omega⟩
        rw [hcur]
        refine List.filter_congr (fun p _ => ?_)
        exact pass_keep _ (by unfold keepP; simpa using hk)
end Go.Proofs.Ytglmlhbchfgliaa
