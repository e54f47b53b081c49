/-
  Cut: plainly, and the walk of the program's. Conditions: no more than 100000 bytes.
-/
import Derived.Test.YtglmlhbchfgliaaMuHead
import Derived.Test.YtglmlhbchfgliaaMuFr
import Derived.Test.YtglmlhbchfgliaaHeld
import Derived.BigQuiet
import Derived.Deep.DeepCutAuto
import Derived.Lib.Hide
namespace Go.Proofs.Ytglmlhbchfgliaa
open Go.RowKit
/-- how long a slice is -/
def slLen : Value → Nat
  | .slice _ n _ => n
  | _ => 0
/-- the fragments of the bytes l, from number n on; the next number -/
def cutF (R size : Nat) (short : Bool) : Nat → Nat → Nat → List UInt8 → List (List UInt8) × Nat
  | 0, _, n, _ => ([], n)
  | f + 1, flags, n, l =>
    if l.length = 0 then ([], n)
    else
      let k := min size l.length
      let r := cutF R size short f 0 ((n + 1) % R) (l.drop k)
      ((headB n (if k = l.length then flags ||| 64 else flags) short ++ l.take k) :: r.1, r.2)
theorem cutF_step {R size : Nat} {short : Bool} {f flags n : Nat} {l : List UInt8} (h : 0 < l.length) :
    cutF R size short (f + 1) flags n l = ((headB n (if min size l.length = l.length then flags ||| 64 else flags) short ++ l.take (min size l.length)) :: (cutF R size short f 0 ((n + 1) % R) (l.drop (min size l.length))).1, (cutF R size short f 0 ((n + 1) % R) (l.drop (min size l.length))).2) := by
  rw [cutF, if_neg (by omega)]
theorem or_lt256 {a : Nat} (h : a < 256) : a ||| 64 < 256 := Nat.or_lt_two_pow (n := 8) h (by decide)
theorem cutF_next {R size : Nat} {short : Bool} {n' p fl nn k : Nat} {l' : List UInt8} {L : List (List UInt8)} {X : List (List UInt8) × Nat} (h : Hid (X = (L ++ (cutF R size short (n' + p) fl nn l').1, (cutF R size short (n' + p) fl nn l').2))) (hl : l'.length = n') (hk : 0 < k)
    (hm : Hid (min size n' = k)) (hkn : k ≤ n') : Hid (X = ((L ++ [headB nn (if k = n' then fl ||| 64 else fl) short ++ l'.take k]) ++ (cutF R size short ((n' - k) + (k - 1 + p)) 0 ((nn + 1) % R) (l'.drop k)).1, (cutF R size short ((n' - k) + (k - 1 + p)) 0 ((nn + 1) % R) (l'.drop k)).2)) := by
  have h := h.out
  rw [show n' + p = (n' - k) + (k - 1 + p) + 1 by omega, cutF_step (by omega), hl, hm.out] at h
  exact Lib.hid (by rw [h]; simp)
/-- a fragment more -/
theorem cut_round {w wr w2 w3 : World} {u q v3 : Value} {m : Nat} {xs : List Value} {L : List (List UInt8)} {A : List UInt8} (hb : Below w.heap.size w wr) (hb2 : Below wr.heap.size wr w2) (hown : wr.ownsRow w.heap.size 27 1 u L.length xs)
    (heach : Each wr w.heap.size xs L) (ho2 : w2.ownsRow wr.heap.size 5 1 q m (A.map bv)) (ho4 : w3.ownsRow w.heap.size 27 1 v3 (L.length + 1) (xs ++ [q])) (hg3 : w2.grownBy w3 u.ownBlock) :
    Fr w3 w.heap.size v3 (L ++ [A]) ∧ Below w.heap.size w w3 := by
  have hm : m = A.length := by have := ho2.1; simpa using this.symm
  subst hm
  have ho3 := own_below hown hb2
  exact ⟨Fr.snoc ho3 (heach.but (K := fun _ => False) (ButOf.of_below hb2) (fun _ _ _ _ h => h)) (own_mono ho2 hb.size) ho4 hg3, below_grown (hb.trans (hb2.mono hb.size)) ho3 hg3 (Nat.le_trans hb.size hb2.size)⟩
theorem oneSl {v : Value} {n : Nat} (h : ∃ a c, v = .slice a n c) : v.oneCell' = true := by obtain ⟨a, c, rfl⟩ := h; rfl
set_option maxRecDepth 100000 in
set_option maxHeartbeats 2000000 in
theorem cut_ok {w : World} {a : Option Addr} {n c : Nat} {l : List UInt8} (size first : Nat) (short : Bool) (h : Bts w a n c l) (hn : 0 < n) (hn2 : n ≤ 100000) (hs : 0 < size) (hs2 : size ≤ 9223372036854775807) (hf : first < rgN short) (hd : (n - 1) / size < 16) :
    Calls Try.prog 13 #[.slice a n c, .int .i64 (size : Nat), .int .i64 (first : Nat), .bool short] w fun e w' => ∃ v, e = .returned (.tuple #[v, .int .i64 ((cutF (rgN short) size short n 128 first l).2 : Nat), .int .i64 0]) ∧
      Fr w' w.heap.size v (cutF (rgN short) size short n 128 first l).1 ∧ Below w.heap.size w w' := by
  have hl := h.len
  have hc := h.cap
  have hr := h.reach
  have hmo := h.most
  obtain ⟨i0, hi, hz0, hz1, hz2⟩ := info_parts Try.info5
  have hi' := Lib.hid hi; clear hi
  obtain ⟨i1, hi, hy0, hy1, hy2⟩ := info_parts info_rows
  have hj' := Lib.hid hi; clear hi
  have hR := rgN_two short
  have hring := Lib.hid (ring_any short)
  generalize rgN short = R at *
  have hquo : ((n : Int) - 1).tdiv (size : Int) = (((n - 1) / size : Nat) : Int) := by rw [Int.tdiv_eq_ediv_of_nonneg (by omega), show (n : Int) - 1 = ((n - 1 : Nat) : Int) by omega]; exact (Int.natCast_ediv _ _).symm
  have hfI : (first : Int) < (R : Int) := by omega
  have hfN : ¬ R ≤ first := by omega
  have hn0 : ((n : Int) == 0) = false := by rw [beq_eq_false_iff_ne]; omega
  have hs1 : (1 : Int) ≤ (size : Int) := by omega
  have hf0 : (0 : Int) ≤ (first : Int) := by omega
  generalize (n - 1) / size = q at hquo hd
  have hdI : (q : Int) < 16 := by omega
  go_enter Try.func13, Try.ntmps13
  go_wp2_with (go_at_call 27; refine (hring.out _).mono ?_; rintro e w' ⟨rfl, rfl⟩)
  go_loopw [0, 11, 12, 13, 14] (fun vb vo vf vn _ wr => ∃ (a' : Option Addr) (n' c' : Nat) (l' : List UInt8) (L : List (List UInt8)) (fl nn p : Nat), vb = .slice a' n' c' ∧ vf = .int .i64 (fl : Nat) ∧ vn = .int .i64 (nn : Nat) ∧ Bts w a' n' c' l' ∧ n' ≤ n ∧ fl < 256 ∧ nn < R ∧ L.length + n' ≤ n ∧
      Hid ((cutF R size short n 128 first l) = (L ++ (cutF R size short (n' + p) fl nn l').1, (cutF R size short (n' + p) fl nn l').2)) ∧ Fr wr w.heap.size vo L ∧ Below w.heap.size w wr) (fun vb _ _ _ _ _ => slLen vb)
  case atStart => exact ⟨a, n, c, l, [], 128, first, 0, rfl, rfl, rfl, h, Nat.le_refl _, by decide, hf, by simp, Lib.hid (by simp), Fr.nil _ _, Below.refl _ _⟩
  case round =>
    obtain ⟨a', n', c', l', L, fl, nn, p, rfl, rfl, rfl, hB, hn', hfl, hnn, hL, hE, hF, hb⟩ := hrel
    by_cases hz : n' = 0
    · subst hz
      have hE := hE.out
      have hl0 : l' = [] := List.eq_nil_of_length_eq_zero hB.len
      go_wp2_with fail
      go_ret3
      have e0 : ∀ f, cutF R size short f fl nn [] = ([], nn) := fun f => by cases f <;> rfl
      rw [hl0, e0] at hE
      rw [hE]
      exact ⟨_, rfl, by simpa using hF, hb⟩
    · obtain ⟨xs, hown, heach⟩ := hF.ex
      have hBw := hB.below hb (Nat.le_refl _)
      have hcc := hB.cap
      have hll := hB.len
      have hnz : 0 < n' := by omega
      have hmin : ∀ (W : World) (ts : Array TypeId) (t : TypeId), (Builtin.min_ ts t #[.int .i64 (size : Nat), .int .i64 (n' : Nat)]).run Try.prog W = .ok (.int .i64 ((min size n' : Nat) : Int)) W := fun W ts t => run_min2 W ts t size n'
      have hkn : min size n' ≤ n' := Nat.min_le_right _ _
      have hk0 : 0 < min size n' := by omega
      have hst := fun W => run_take (P := Try.prog) Try.underlying27 hi'.out a' n' c' (min size n') (by omega) W
      have hsl := fun W => run_sub (P := Try.prog) Try.underlying27 hi'.out hz1 a' n' c' (min size n') hkn W
      have hBd := hB.drop hkn
      generalize hke : min size n' = k at hmin hkn hk0 hst hsl hBd
      replace hke := Lib.hid hke
      generalize (if c' = k then a' else a'.map (·.add k)) = ad at hsl hBd
      have hflag : bits .or .i64 (fl : Int) 64 = ((fl ||| 64 : Nat) : Int) := i64_or_nat fl 64 (by omega) (by decide)
      have hrem : ((nn : Int) + 1).tmod (R : Int) = (((nn + 1) % R : Nat) : Int) := by rw [Int.tmod_eq_emod_of_nonneg (by omega), show (nn : Int) + 1 = ((nn + 1 : Nat) : Int) by omega]; exact (Int.natCast_emod _ _).symm
      have hRz : ((R : Int) == 0) = false := by rw [beq_eq_false_iff_ne]; omega
      have hn24 : nn < 16777216 := by omega
      -- ROUND
      by_cases hlast : k = n'
      · subst hlast
        have hF2 := or_lt256 hfl
        have hh := Lib.hid (fun W => head_any nn (fl ||| 64) short W hn24 hF2)
        have hlen : (headB nn (fl ||| 64) short).length ≤ 4 := by rw [headB_len]; split <;> omega
        generalize hHe : headB nn (fl ||| 64) short = H at hh hlen
        have m1 : H.length ≤ maxLen := by unfold maxLen; omega
        have m2 : H.length + k ≤ maxLen := by unfold maxLen; omega
        have m3 : (H.length + k) * 1 ≤ 140737488355328 := by omega
        have m4 : L.length + 1 ≤ maxLen := by unfold maxLen; omega
        have m5 : (L.length + 1) * 24 ≤ 140737488355328 := by omega
        replace hHe := Lib.hid hHe
        have hsz := hb.size
        go_wp2_with fail
        refine wp_region_held_drew (S := fun _ => True) (by kernel_rfl) trivial (fun hHeld => ?_)
        refine held_take (i := 0) (v := ?_) rfl (by kernel_rfl) (by kernel_rfl) (by kernel_rfl) (fun _ _ _ h => h) (Or.inl ⟨by kernel_rfl, ?_⟩) (by assumption) ?_
        rotate_left
        · intro w hSw
          (try dsimp only at hSw)
          go_split_ands
          go_simp
          all_goals with_reducible rfl
        simp only [List.setIfInBounds_toArray, List.set_cons_zero, List.set_cons_succ]
        refine held_take (i := 1) (v := ?_) rfl (by kernel_rfl) (by kernel_rfl) (by kernel_rfl) (fun _ _ _ h => h) (Or.inl ⟨by kernel_rfl, ?_⟩) (by assumption) ?_
        rotate_left
        · intro w hSw
          (try dsimp only at hSw)
          go_split_ands
          go_simp
          all_goals with_reducible rfl
        simp only [List.setIfInBounds_toArray, List.set_cons_zero, List.set_cons_succ]
        refine held_take (i := 2) (v := ?_) rfl (by kernel_rfl) (by kernel_rfl) (by kernel_rfl) (fun _ _ _ h => h) (Or.inl ⟨by kernel_rfl, ?_⟩) (by assumption) ?_
        rotate_left
        · intro w hSw
          (try dsimp only at hSw)
          go_split_ands
          go_simp
          all_goals with_reducible rfl
        simp only [List.setIfInBounds_toArray, List.set_cons_zero, List.set_cons_succ]
        refine held_take (i := 3) (v := ?_) rfl (by kernel_rfl) (by kernel_rfl) (by kernel_rfl) (fun _ _ _ h => h) (Or.inl ⟨by kernel_rfl, ?_⟩) (by assumption) ?_
        rotate_left
        · intro w hSw
          (try dsimp only at hSw)
          go_split_ands
          go_simp
          all_goals with_reducible rfl
        simp only [List.setIfInBounds_toArray, List.set_cons_zero, List.set_cons_succ]
        refine held_take (i := 5) (v := ?_) rfl (by kernel_rfl) (by kernel_rfl) (by kernel_rfl) (fun _ _ _ h => h) (Or.inl ⟨by kernel_rfl, ?_⟩) (by assumption) ?_
        rotate_left
        · intro w hSw
          (try dsimp only at hSw)
          go_split_ands
          go_simp
          all_goals with_reducible rfl
        simp only [List.setIfInBounds_toArray, List.set_cons_zero, List.set_cons_succ]
        refine held_take (i := 6) (v := ?_) rfl (by kernel_rfl) (by kernel_rfl) (by kernel_rfl) (fun _ _ _ h => h) (Or.inl ⟨by kernel_rfl, ?_⟩) (by assumption) ?_
        rotate_left
        · intro w hSw
          (try dsimp only at hSw)
          go_split_ands
          go_simp
          all_goals with_reducible rfl
        simp only [List.setIfInBounds_toArray, List.set_cons_zero, List.set_cons_succ]
        refine held_take (i := 7) (v := ?_) rfl (by kernel_rfl) (by kernel_rfl) (by kernel_rfl) (fun _ _ _ h => h) (Or.inl ⟨by kernel_rfl, ?_⟩) (by assumption) ?_
        rotate_left
        · intro w hSw
          (try dsimp only at hSw)
          go_split_ands
          go_simp
          all_goals with_reducible rfl
        simp only [List.setIfInBounds_toArray, List.set_cons_zero, List.set_cons_succ]
        refine wpAnyH_ready (rs := [4]) (by kernel_rfl) (by simp) ?_
        refine AllReadyH.cons rfl (fun K hK => ?_) AllReadyH.nil
        go_simp
        go_wp2_with (go_at_call 28; refine (hh.out _).mono ?_; rintro e w1 ⟨g, rfl, hg, hblk, hb1⟩; have ho1 := own_of_blk (n := H.length) (c := H.length) (cs := H.map bv) hblk hg (Nat.le_refl _) m1 (List.length_map ..); rw [List.take_of_length_le (Nat.le_of_eq (List.length_map ..))] at ho1; replace hb1 := below_of_drew hb1; have hB1 := hBw.below hb1 (Nat.le_refl _))
        refine hK.out _ _ ?_ (fun hHeld => ?_)
        · exact trivial
        clear hK K
        refine wpAnyH_ready (rs := [8]) (by kernel_rfl) (by simp) ?_
        refine AllReadyH.cons rfl (fun K hK => ?_) AllReadyH.nil
        refine step_appB_at rfl _ _ 27 rfl wr.heap.size 5 i0 _ 1 Try.underlying27 hi'.out hz0 hz1 hz2 rfl (.slice (some ⟨g, 0, none⟩) H.length H.length) H.length (H.map bv) rfl ho1 a' k c' (l'.take k) rfl (hB1.take hkn) m2 m3 hb1.size ?_
        intro v2 w2 ho2 hg2 hx2
        obtain ⟨a2, c2, rfl⟩ := own_slice ho2
        have hb2 := below_grown hb1 ho1 hg2 hb1.size
        clear hg2
        have ho3 := own_below hown hb2
        refine hK.out _ _ ?_ (fun hHeld => ?_)
        · exact trivial
        clear hK K
        refine wpAnyH_ready (rs := [9]) (by kernel_rfl) (by simp) ?_
        refine AllReadyH.cons rfl (fun K hK => ?_) AllReadyH.nil
        go_simp
        refine hK.out _ _ ?_ (fun hHeld => ?_)
        · exact trivial
        clear hK K
        refine wpAnyH_ready (rs := [10]) (by kernel_rfl) (by simp) ?_
        refine AllReadyH.cons rfl (fun K hK => ?_) AllReadyH.nil
        refine step_app1_at rfl _ _ 23 rfl w.heap.size 27 i1 _ 24 Try.underlying23 hj'.out hy0 hy1 hy2 rfl u11 L.length xs rfl ho3 (.slice a2 (H.length + k) c2) rfl rfl m4 m5 (Nat.le_trans hsz hb2.size) ?_
        intro v3 w3 ho4 hg3 hx3
        obtain ⟨a3, c3, rfl⟩ := own_slice ho4
        refine hK.out _ _ ?_ (fun hHeld => ?_)
        · exact trivial
        clear hK K
        refine held_take (i := 11) (v := ?_) rfl (by kernel_rfl) (by kernel_rfl) (by kernel_rfl) (fun _ _ _ h => h) (Or.inl ⟨by kernel_rfl, ?_⟩) (by assumption) ?_
        rotate_left
        · intro w hSw
          (try dsimp only at hSw)
          go_split_ands
          go_simp
          all_goals with_reducible rfl
        simp only [List.setIfInBounds_toArray, List.set_cons_zero, List.set_cons_succ]
        refine wpAnyH_done (by kernel_rfl) ?_ _
        go_wp2_with fail
        go_quiet ((go_at_call 27; exact quiet_eq (hring.out _)))
        go_wp2_with fail
        obtain ⟨hF3, hb3⟩ := cut_round hb hb2 hown heach (A := H ++ l'.take k) (own_congr ho2 rfl (by simp)) ho4 hg3
        refine ⟨⟨ad, 0, c' - k, l'.drop k, L ++ [H ++ l'.take k], 0, (nn + 1) % R, k - 1 + p, rfl, rfl, rfl, ?_, Nat.zero_le _, by decide, Nat.mod_lt _ (by omega), by simp; omega, ?_, ?_, ?_⟩, by simp [slLen]; omega⟩
        · have e := hBd
          rw [Nat.sub_self] at e
          exact e
        · have e := cutF_next hE hll hk0 hke hkn
          rw [if_pos rfl, hHe.out, Nat.sub_self] at e
          exact e
        · exact hF3.below (below_drewN (Below.refl _ _) _)
        · exact below_drewN hb3 _
      · have hF2 := hfl
        have hh := Lib.hid (fun W => head_any nn fl short W hn24 hF2)
        have hlen : (headB nn fl short).length ≤ 4 := by rw [headB_len]; split <;> omega
        generalize hHe : headB nn fl short = H at hh hlen
        have m1 : H.length ≤ maxLen := by unfold maxLen; omega
        have m2 : H.length + k ≤ maxLen := by unfold maxLen; omega
        have m3 : (H.length + k) * 1 ≤ 140737488355328 := by omega
        have m4 : L.length + 1 ≤ maxLen := by unfold maxLen; omega
        have m5 : (L.length + 1) * 24 ≤ 140737488355328 := by omega
        replace hHe := Lib.hid hHe
        have hsz := hb.size
        go_wp2_with fail
        refine wp_region_held_drew (S := fun _ => True) (by kernel_rfl) trivial (fun hHeld => ?_)
        refine held_take (i := 0) (v := ?_) rfl (by kernel_rfl) (by kernel_rfl) (by kernel_rfl) (fun _ _ _ h => h) (Or.inl ⟨by kernel_rfl, ?_⟩) (by assumption) ?_
        rotate_left
        · intro w hSw
          (try dsimp only at hSw)
          go_split_ands
          go_simp
          all_goals with_reducible rfl
        simp only [List.setIfInBounds_toArray, List.set_cons_zero, List.set_cons_succ]
        refine held_take (i := 1) (v := ?_) rfl (by kernel_rfl) (by kernel_rfl) (by kernel_rfl) (fun _ _ _ h => h) (Or.inl ⟨by kernel_rfl, ?_⟩) (by assumption) ?_
        rotate_left
        · intro w hSw
          (try dsimp only at hSw)
          go_split_ands
          go_simp
          all_goals with_reducible rfl
        simp only [List.setIfInBounds_toArray, List.set_cons_zero, List.set_cons_succ]
        refine held_take (i := 2) (v := ?_) rfl (by kernel_rfl) (by kernel_rfl) (by kernel_rfl) (fun _ _ _ h => h) (Or.inl ⟨by kernel_rfl, ?_⟩) (by assumption) ?_
        rotate_left
        · intro w hSw
          (try dsimp only at hSw)
          go_split_ands
          go_simp
          all_goals with_reducible rfl
        simp only [List.setIfInBounds_toArray, List.set_cons_zero, List.set_cons_succ]
        refine held_take (i := 3) (v := ?_) rfl (by kernel_rfl) (by kernel_rfl) (by kernel_rfl) (fun _ _ _ h => h) (Or.inl ⟨by kernel_rfl, ?_⟩) (by assumption) ?_
        rotate_left
        · intro w hSw
          (try dsimp only at hSw)
          go_split_ands
          go_simp
          all_goals with_reducible rfl
        simp only [List.setIfInBounds_toArray, List.set_cons_zero, List.set_cons_succ]
        refine held_take (i := 5) (v := ?_) rfl (by kernel_rfl) (by kernel_rfl) (by kernel_rfl) (fun _ _ _ h => h) (Or.inl ⟨by kernel_rfl, ?_⟩) (by assumption) ?_
        rotate_left
        · intro w hSw
          (try dsimp only at hSw)
          go_split_ands
          go_simp
          all_goals with_reducible rfl
        simp only [List.setIfInBounds_toArray, List.set_cons_zero, List.set_cons_succ]
        refine held_take (i := 6) (v := ?_) rfl (by kernel_rfl) (by kernel_rfl) (by kernel_rfl) (fun _ _ _ h => h) (Or.inl ⟨by kernel_rfl, ?_⟩) (by assumption) ?_
        rotate_left
        · intro w hSw
          (try dsimp only at hSw)
          go_split_ands
          go_simp
          all_goals with_reducible rfl
        simp only [List.setIfInBounds_toArray, List.set_cons_zero, List.set_cons_succ]
        refine held_take (i := 7) (v := ?_) rfl (by kernel_rfl) (by kernel_rfl) (by kernel_rfl) (fun _ _ _ h => h) (Or.inl ⟨by kernel_rfl, ?_⟩) (by assumption) ?_
        rotate_left
        · intro w hSw
          (try dsimp only at hSw)
          go_split_ands
          go_simp
          all_goals with_reducible rfl
        simp only [List.setIfInBounds_toArray, List.set_cons_zero, List.set_cons_succ]
        refine wpAnyH_ready (rs := [4]) (by kernel_rfl) (by simp) ?_
        refine AllReadyH.cons rfl (fun K hK => ?_) AllReadyH.nil
        go_simp
        go_wp2_with (go_at_call 28; refine (hh.out _).mono ?_; rintro e w1 ⟨g, rfl, hg, hblk, hb1⟩; have ho1 := own_of_blk (n := H.length) (c := H.length) (cs := H.map bv) hblk hg (Nat.le_refl _) m1 (List.length_map ..); rw [List.take_of_length_le (Nat.le_of_eq (List.length_map ..))] at ho1; replace hb1 := below_of_drew hb1; have hB1 := hBw.below hb1 (Nat.le_refl _))
        refine hK.out _ _ ?_ (fun hHeld => ?_)
        · exact trivial
        clear hK K
        refine wpAnyH_ready (rs := [8]) (by kernel_rfl) (by simp) ?_
        refine AllReadyH.cons rfl (fun K hK => ?_) AllReadyH.nil
        refine step_appB_at rfl _ _ 27 rfl wr.heap.size 5 i0 _ 1 Try.underlying27 hi'.out hz0 hz1 hz2 rfl (.slice (some ⟨g, 0, none⟩) H.length H.length) H.length (H.map bv) rfl ho1 a' k c' (l'.take k) rfl (hB1.take hkn) m2 m3 hb1.size ?_
        intro v2 w2 ho2 hg2 hx2
        obtain ⟨a2, c2, rfl⟩ := own_slice ho2
        have hb2 := below_grown hb1 ho1 hg2 hb1.size
        clear hg2
        have ho3 := own_below hown hb2
        refine hK.out _ _ ?_ (fun hHeld => ?_)
        · exact trivial
        clear hK K
        refine wpAnyH_ready (rs := [9]) (by kernel_rfl) (by simp) ?_
        refine AllReadyH.cons rfl (fun K hK => ?_) AllReadyH.nil
        go_simp
        refine hK.out _ _ ?_ (fun hHeld => ?_)
        · exact trivial
        clear hK K
        refine wpAnyH_ready (rs := [10]) (by kernel_rfl) (by simp) ?_
        refine AllReadyH.cons rfl (fun K hK => ?_) AllReadyH.nil
        refine step_app1_at rfl _ _ 23 rfl w.heap.size 27 i1 _ 24 Try.underlying23 hj'.out hy0 hy1 hy2 rfl u11 L.length xs rfl ho3 (.slice a2 (H.length + k) c2) rfl rfl m4 m5 (Nat.le_trans hsz hb2.size) ?_
        intro v3 w3 ho4 hg3 hx3
        obtain ⟨a3, c3, rfl⟩ := own_slice ho4
        refine hK.out _ _ ?_ (fun hHeld => ?_)
        · exact trivial
        clear hK K
        refine held_take (i := 11) (v := ?_) rfl (by kernel_rfl) (by kernel_rfl) (by kernel_rfl) (fun _ _ _ h => h) (Or.inl ⟨by kernel_rfl, ?_⟩) (by assumption) ?_
        rotate_left
        · intro w hSw
          (try dsimp only at hSw)
          go_split_ands
          go_simp
          all_goals with_reducible rfl
        simp only [List.setIfInBounds_toArray, List.set_cons_zero, List.set_cons_succ]
        refine wpAnyH_done (by kernel_rfl) ?_ _
        go_wp2_with fail
        go_quiet ((go_at_call 27; exact quiet_eq (hring.out _)))
        go_wp2_with fail
        obtain ⟨hF3, hb3⟩ := cut_round hb hb2 hown heach (A := H ++ l'.take k) (own_congr ho2 rfl (by simp)) ho4 hg3
        refine ⟨⟨ad, n' - k, c' - k, l'.drop k, L ++ [H ++ l'.take k], 0, (nn + 1) % R, k - 1 + p, rfl, rfl, rfl, hBd, by omega, by decide, Nat.mod_lt _ (by omega), by simp; omega, ?_, ?_, ?_⟩, by simp [slLen]; omega⟩
        · have e := cutF_next hE hll hk0 hke hkn
          rw [if_neg hlast, hHe.out] at e
          exact e
        · exact hF3.below (below_drewN (Below.refl _ _) _)
        · exact below_drewN hb3 _
      -- END
theorem cut_arg {w : World} {a : Option Addr} {n c : Nat} (size first : Int) (short : Bool) (h : n = 0 ∨ size < 1 ∨ first < 0 ∨ (rgN short : Int) ≤ first) :
    Calls Try.prog 13 #[.slice a n c, .int .i64 size, .int .i64 first, .bool short] w fun e w' => e = .returned (.tuple #[.slice none 0 0, .int .i64 0, .int .i64 1]) ∧ w = w' := by
  have hring := Lib.hid (ring_any short)
  generalize rgN short = R at *
  by_cases h1 : n = 0
  · subst h1
    clear h
    go_enter Try.func13, Try.ntmps13
    go_wp2_with (go_at_call 27; refine (hring.out _).mono ?_; rintro e w' ⟨rfl, rfl⟩)
    go_ret3
    exact ⟨rfl, rfl⟩
  have hn0 : ((n : Int) == 0) = false := by rw [beq_eq_false_iff_ne]; omega
  by_cases h2 : size < 1
  · clear h
    go_enter Try.func13, Try.ntmps13
    go_wp2_with (go_at_call 27; refine (hring.out _).mono ?_; rintro e w' ⟨rfl, rfl⟩)
    go_ret3
    exact ⟨rfl, rfl⟩
  have hs1 : 1 ≤ size := by omega
  by_cases h3 : first < 0
  · clear h h2
    go_enter Try.func13, Try.ntmps13
    go_wp2_with (go_at_call 27; refine (hring.out _).mono ?_; rintro e w' ⟨rfl, rfl⟩)
    go_ret3
    exact ⟨rfl, rfl⟩
  have hf0 : 0 ≤ first := by omega
  have h4 : (R : Int) ≤ first := by omega
  clear h h2 h3
  · skip
    go_enter Try.func13, Try.ntmps13
    go_wp2_with (go_at_call 27; refine (hring.out _).mono ?_; rintro e w' ⟨rfl, rfl⟩)
    go_ret3
    exact ⟨rfl, rfl⟩
set_option maxHeartbeats 1000000 in
theorem cut_long {w : World} {a : Option Addr} {n c : Nat} (size first : Nat) (short : Bool) (hn : 0 < n) (hs : 0 < size) (hf : first < rgN short) (hd : 16 ≤ (n - 1) / size) (hn2 : n ≤ 9223372036854775807) :
    Calls Try.prog 13 #[.slice a n c, .int .i64 (size : Nat), .int .i64 (first : Nat), .bool short] w fun e w' => e = .returned (.tuple #[.slice none 0 0, .int .i64 0, .int .i64 3]) ∧ w = w' := by
  have hring := Lib.hid (ring_any short)
  have hR := rgN_two short
  generalize rgN short = R at *
  have hquo : ((n : Int) - 1).tdiv (size : Int) = (((n - 1) / size : Nat) : Int) := by rw [Int.tdiv_eq_ediv_of_nonneg (by omega), show (n : Int) - 1 = ((n - 1 : Nat) : Int) by omega]; exact (Int.natCast_ediv _ _).symm
  have hfI : (first : Int) < (R : Int) := by omega
  have hfN : ¬ R ≤ first := by omega
  have hn0 : ((n : Int) == 0) = false := by rw [beq_eq_false_iff_ne]; omega
  have hs1 : (1 : Int) ≤ (size : Int) := by omega
  have hf0 : (0 : Int) ≤ (first : Int) := by omega
  have hq2 : (n - 1) / size ≤ 9223372036854775807 := Nat.le_trans (Nat.div_le_self _ _) (by omega)
  generalize (n - 1) / size = q at hquo hd hq2
  have hqI : (q : Int) ≤ 9223372036854775807 := by omega
  have hdI : (16 : Int) ≤ (q : Int) := by omega
  clear hf hd hq2
  · skip
    go_enter Try.func13, Try.ntmps13
    go_wp2_with (go_at_call 27; refine (hring.out _).mono ?_; rintro e w' ⟨rfl, rfl⟩)
    go_ret3
    exact ⟨rfl, rfl⟩
/-- what Cut answers: the fragments, the next number, the error -/
def cutP (l : List UInt8) (size first : Int) (short : Bool) : List (List UInt8) × Nat × Nat :=
  if l.length = 0 ∨ size < 1 ∨ first < 0 ∨ (rgN short : Int) ≤ first then ([], 0, 1)
  else if 16 ≤ (l.length - 1) / size.toNat then ([], 0, 3)
  else ((cutF (rgN short) size.toNat short l.length 128 first.toNat l).1, (cutF (rgN short) size.toNat short l.length 128 first.toNat l).2, 0)
theorem cut_any {w : World} {a : Option Addr} {n c : Nat} {l : List UInt8} (size first : Int) (short : Bool) (h : Bts w a n c l) (hn2 : n ≤ 100000) (hs2 : size ≤ 9223372036854775807) :
    Calls Try.prog 13 #[.slice a n c, .int .i64 size, .int .i64 first, .bool short] w fun e w' => ∃ v, e = .returned (.tuple #[v, .int .i64 ((cutP l size first short).2.1 : Nat), .int .i64 ((cutP l size first short).2.2 : Nat)]) ∧
      Fr w' w.heap.size v (cutP l size first short).1 ∧ Below w.heap.size w w' := by
  have hl := h.len
  unfold cutP
  by_cases h1 : l.length = 0 ∨ size < 1 ∨ first < 0 ∨ (rgN short : Int) ≤ first
  · rw [if_pos h1]
    refine (cut_arg size first short (by omega)).mono ?_
    rintro e w' ⟨rfl, rfl⟩
    exact ⟨_, rfl, Fr.nil _ _, Below.refl _ _⟩
  · rw [if_neg h1]
    obtain ⟨sz, rfl⟩ := Int.eq_ofNat_of_zero_le (show 0 ≤ size by omega)
    obtain ⟨ft, rfl⟩ := Int.eq_ofNat_of_zero_le (show 0 ≤ first by omega)
    simp only [Int.toNat_natCast]
    by_cases h2 : 16 ≤ (l.length - 1) / sz
    · rw [if_pos h2]
      refine (cut_long sz ft short (by omega) (by omega) (by omega) (by rw [← hl]; exact h2) (by omega)).mono ?_
      rintro e w' ⟨rfl, rfl⟩
      exact ⟨_, rfl, Fr.nil _ _, Below.refl _ _⟩
    · rw [if_neg h2]
      refine (cut_ok sz ft short h (by omega) hn2 (by omega) (by omega) (by omega) (by rw [← hl]; omega)).mono ?_
      rintro e w' ⟨v, rfl, hF, hb⟩
      rw [← hl] at hF ⊢
      exact ⟨v, rfl, hF, hb⟩
end Go.Proofs.Ytglmlhbchfgliaa
