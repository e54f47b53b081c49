/-
  The walk of the reference's Cut. Conditions: no more than 100000 bytes.
-/
import Derived.Test.YtglmlhbchfgliaaMuRHead
import Derived.Test.YtglmlhbchfgliaaMuFrag
namespace Go.Proofs.Ytglmlhbchfgliaa
open Go.RowKit
/-- bytes are appended to a few that were just laid -/
theorem wp_litB {W : World} {ops : Array Oper} {rest : List Oper} {o : Oper} {a : Act} {Q : Exit → Act → World → Prop} (hgd : o.guard = none) (s x : Operand)
    (ho : o.op = .call { callee := .builtin .append, args := #[s, x], argTypes := #[27, 27] }) {k : Nat} {cs : Array Value} {us : List UInt8} (hul : us.length = k) (hcs : cs = (us.map bv).toArray) (hk : k ≤ 1000)
    (hs : a.eval s = .slice (some ⟨W.heap.size, 0, none⟩) k k) (ad : Option Addr) (m c : Nat) (l : List UInt8) (hx : a.eval x = .slice ad m c) (hB : Bts W ad m c l) (hm : m ≤ 100000)
    (h : ∀ (v' : Value) (w' : World), w'.ownsRow W.heap.size 5 1 v' (us ++ l).length ((us ++ l).map bv) → Below W.heap.size W w' → wpList Try.prog ops Q rest (a.put o.dst v') w') :
    wpList Try.prog ops Q (o :: rest) a (W.alloc (.cells cs 5)) := by
  subst hcs
  obtain ⟨i0, hi, hz0, hz1, hz2⟩ := info_parts Try.info5
  have hb := below_alloc (Below.refl W.heap.size W) (.cells (us.map bv).toArray 5) (Nat.le_refl _)
  have ho1 : (W.alloc (.cells (us.map bv).toArray 5)).ownsRow W.heap.size 5 1 (.slice (some ⟨W.heap.size, 0, none⟩) k k) k (us.map bv) := by
    have := own_of_blk (Blk.new W (us.map bv).toArray 5) (Nat.le_refl _) (Nat.le_refl k) (by unfold maxLen; omega) (by simpa using hul)
    rwa [List.take_of_length_le (by simp [hul])] at this
  refine wp_appB_at hgd s x 27 ho W.heap.size 5 i0 _ 1 Try.underlying27 hi hz0 hz1 hz2 rfl _ _ _ hs ho1 ad m c l hx (hB.below hb (Nat.le_refl _)) (by unfold maxLen; omega) (by omega) hb.size ?_
  intro v' w' h1 h2 _
  exact h v' w' (own_congr h1 (by simp [hul, hB.len]) (by simp)) (below_grown hb ho1 h2 hb.size)
/-- the same, of letters -/
theorem wp_litC {W : World} {ops : Array Oper} {rest : List Oper} {o : Oper} {a : Act} {Q : Exit → Act → World → Prop} (hgd : o.guard = none) (s x : Operand)
    (ho : o.op = .call { callee := .builtin .append, args := #[s, x], argTypes := #[27, 27] }) {k : Nat} {cs : Array Value} {us : List UInt8} (hul : us.length = k) (hcs : cs = (us.map bv).toArray) (hk : k ≤ 1000)
    (hs : a.eval s = .slice (some ⟨W.heap.size, 0, none⟩) k k) (ad : Option Addr) (m c : Nat) (l : List UInt8) (hx : a.eval x = .slice ad m c) (hB : Bts W ad m c l) (hm : m ≤ 100000) {A : List UInt8} {m6 : Nat} (hA : Hid (us ++ l = A)) (h6 : Hid (A.length = m6))
    (h : ∀ (v' : Value) (w' : World), w'.ownsRow W.heap.size 5 1 v' m6 (A.map bv) → Below W.heap.size W w' → wpList Try.prog ops Q rest (a.put o.dst v') w') :
    wpList Try.prog ops Q (o :: rest) a (W.alloc (.cells cs 5)) := by
  obtain rfl := hA.out
  obtain rfl := h6.out
  exact wp_litB hgd s x ho hul hcs hk hs ad m c l hx hB hm h
theorem cells_long {n flags : Nat} {v1 v2 v3 v4 : Int} (h1 : v1 = ((UInt8.ofNat flags).toNat : Int)) (h2 : v2 = ((UInt8.ofNat (n / 65536)).toNat : Int)) (h3 : v3 = ((UInt8.ofNat (n / 256)).toNat : Int)) (h4 : v4 = ((UInt8.ofNat n).toNat : Int)) :
    #[Value.int .u8 v1, Value.int .u8 v2, Value.int .u8 v3, Value.int .u8 v4] = ((headB n flags false).map bv).toArray := by
  subst h1; subst h2; subst h3; subst h4; rfl
theorem cells_short {n flags : Nat} {v1 v2 : Int} (h1 : v1 = ((UInt8.ofNat (flags ||| n / 256)).toNat : Int)) (h2 : v2 = ((UInt8.ofNat n).toNat : Int)) : #[Value.int .u8 v1, Value.int .u8 v2] = ((headB n flags true).map bv).toArray := by
  subst h1; subst h2; rfl
-- GENERATED (gen_murcut2.py)
set_option maxRecDepth 100000 in
set_option maxHeartbeats 1000000 in
theorem rcut_ok {w : World} {a : Option Addr} {n c : Nat} {l : List UInt8} (size first : Nat) (short : Bool) (h : Bts w a n c l) (hn : 0 < n) (hn2 : n ≤ 100000) (hs : 0 < size) (hs2 : size ≤ 9223372036854775807) (hf : first < rgN short) (hd : (n - 1) / size < 16) :
    Calls Try.prog 17 #[.slice a n c, .int .i64 (size : Nat), .int .i64 (first : Nat), .bool short] w fun e w' => ∃ v, e = .returned (.tuple #[v, .int .i64 ((cutF (rgN short) size short n (flagN true false) first l).2 : Nat), .int .i64 0]) ∧
      Fr w' w.heap.size v (cutF (rgN short) size short n (flagN true false) first l).1 ∧ Below w.heap.size w w' := by
  have hl := h.len
  have hc := h.cap
  have hr := h.reach
  have hmo := h.most
  obtain ⟨i0, hi, hz0, hz1, hz2⟩ := info_parts Try.info5
  have hi' := Lib.hid hi; clear hi
  obtain ⟨i1, hi, hy0, hy1, hy2⟩ := info_parts info_rows
  have hj' := Lib.hid hi; clear hi
  have hquo : ((n : Int) - 1).tdiv (size : Int) = (((n - 1) / size : Nat) : Int) := by rw [Int.tdiv_eq_ediv_of_nonneg (by omega), show (n : Int) - 1 = ((n - 1 : Nat) : Int) by omega]; exact (Int.natCast_ediv _ _).symm
  have hn0 : ((n : Int) == 0) = false := by rw [beq_eq_false_iff_ne]; omega
  have hs1 : (1 : Int) ≤ (size : Int) := by omega
  have hf0 : (0 : Int) ≤ (first : Int) := by omega
  generalize (n - 1) / size = q at hquo hd
  have hdI : (q : Int) + 1 ≤ 16 := by omega
  cases short
  · have hring := Lib.hid (rring_any false)
    have hRb : rgN false ≤ 16777216 ∧ 0 < rgN false := by decide
    generalize rgN false = R at *
    have hfI : (first : Int) < (R : Int) := by omega
    have hfN : ¬ R ≤ first := by omega
    go_enter Try.func17, Try.ntmps17
    go_wp2_with (go_at_call 31; refine (hring.out _).mono ?_; rintro e w' ⟨rfl, rfl⟩)
    go_loopw [2, 12, 13] (fun v2 vo va wr => ∃ (at_ nn fu : Nat) (L : List (List UInt8)), va = .int .i64 at_ ∧ v2 = .int .i64 nn ∧ at_ < n ∧ nn < R ∧ Hid (n - at_ ≤ fu) ∧ L.length ≤ at_ ∧
      Hid (cutF R size false n (flagN true false) first l = (L ++ (cutF R size false fu (flagN (decide (at_ = 0)) false) nn (l.drop at_)).1, (cutF R size false fu (flagN (decide (at_ = 0)) false) nn (l.drop at_)).2)) ∧ Fr wr w.heap.size vo L ∧ Below w.heap.size w wr) (fun _ _ va _ => n - (intOf va).toNat)
    case atStart => exact ⟨0, first, n, [], rfl, rfl, hn, hf, Lib.hid (by omega), by simp, Lib.hid (by simp), Fr.nil _ _, Below.refl _ _⟩
    case round =>
      obtain ⟨at_, nn, fu, L, rfl, rfl, hat, hnn, hfu, hL, hE, hF, hbr⟩ := hrel
      have hatI : (at_ : Int) < (n : Int) := by omega
      obtain ⟨fu, rfl⟩ : ∃ f', fu = f' + 1 := ⟨fu - 1, by have := hfu.out; omega⟩
      have hE2 := hE.out
      rw [cutF_one (by rw [List.length_drop]; omega), List.length_drop, hl] at hE2
      obtain ⟨rm, hrm⟩ : ∃ rm, n - at_ = rm := ⟨_, rfl⟩
      rw [hrm] at hE2
      have hrmI : (n : Int) - (at_ : Int) = (rm : Int) := by omega
      have hsl := fun W => run_sub (P := Try.prog) Try.underlying27 hi'.out hz1 a n c at_ (by omega) W
      have hBd := h.drop (show at_ ≤ n by omega)
      rw [hrm] at hsl hBd
      generalize (if c = at_ then a else a.map (·.add at_)) = ad at hsl hBd
      replace hrm := Lib.hid hrm
      replace hE2 := Lib.hid hE2
      obtain ⟨n1, hn1⟩ : ∃ n1, (nn + 1) % R = n1 := ⟨_, rfl⟩
      have hrem : ((nn : Int) + 1).tmod (R : Int) = (n1 : Int) := by rw [Int.tmod_eq_emod_of_nonneg (by omega), ← hn1, show (nn : Int) + 1 = ((nn + 1 : Nat) : Int) by omega]; exact (Int.natCast_emod _ _).symm
      have hRz : ((R : Int) == 0) = false := by rw [beq_eq_false_iff_ne]; omega
      have hn1R : n1 < R := by rw [← hn1]; exact Nat.mod_lt _ (by omega)
      replace hn1 := Lib.hid hn1
      have hm1 : L.length + 1 ≤ maxLen := by unfold maxLen; omega
      have hm2 : (L.length + 1) * 24 ≤ 140737488355328 := by omega
      obtain ⟨xs, hown, heach⟩ := hF.ex
      by_cases hle : rm ≤ size
      · by_cases h0 : at_ = 0
        · have hor : bits .or .i64 128 64 = 192 := by decide
          have hlI : (rm : Int) ≤ (size : Int) := by omega
          have hlJ : ¬ ((size : Int) < (rm : Int)) := by omega
          have ha0 : ((at_ : Int) == 0) = true := by rw [beq_iff_eq]; omega
          replace h0 := Lib.hid h0
          replace hle := Lib.hid hle
          have e1 : (192 : Int) = ((UInt8.ofNat 192).toNat : Int) := by decide
          have e2 : (nn : Int) / 65536 = ((UInt8.ofNat (nn / 65536)).toNat : Int) := by rw [UInt8.toNat_ofNat']; omega
          have e3 : (nn : Int) / 256 % 256 = ((UInt8.ofNat (nn / 256)).toNat : Int) := by rw [UInt8.toNat_ofNat']; omega
          have e4 : (nn : Int) % 256 = ((UInt8.ofNat nn).toNat : Int) := by rw [UInt8.toNat_ofNat']; omega
          replace e1 := Lib.hid e1
          replace e2 := Lib.hid e2
          replace e3 := Lib.hid e3
          replace e4 := Lib.hid e4
          obtain ⟨A6, hA6⟩ : ∃ A, headB nn 192 false ++ l.drop at_ = A := ⟨_, rfl⟩
          obtain ⟨m6, hm6⟩ : ∃ m, A6.length = m := ⟨_, rfl⟩
          replace hA6 := Lib.hid hA6
          replace hm6 := Lib.hid hm6
          go_wp2_with (first | (at_builtin; go_must (refine wp_litC (us := headB nn 192 false) rfl _ _ rfl (by rw [headB_len]; rfl) (cells_long e1.out e2.out e3.out e4.out) (by omega) rfl ad rm _ _ rfl (hBd.below hbr (Nat.le_refl _)) (by omega) hA6 hm6 ?_)))
          intro v6 w6 ho6 hb6
          obtain ⟨a6, c6, rfl⟩ := own_slice ho6
          have hown6 := own_below hown hb6
          go_wp2_with (at_builtin; go_must (refine wp_app1_at rfl _ _ 23 rfl w.heap.size 27 i1 _ 24 Try.underlying23 hj'.out hy0 hy1 hy2 rfl _ L.length xs rfl hown6 (.slice a6 _ c6) rfl rfl hm1 hm2 (Nat.le_trans hbr.size hb6.size) ?_))
          intro v7 w7 ho7 hg7 _
          obtain ⟨hF7, hb7⟩ := cut_round hbr hb6 hown heach ho6 ho7 hg7
          rw [← hA6.out] at hF7
          replace hF7 := Lib.hid hF7
          obtain ⟨a7, c7, rfl⟩ := own_slice ho7
          clear hown heach ho6 ho7 hg7 hb6 hown6 hBd hF
          go_wp2_with fail
          go_ret3
          have e := hE2.out
          have hdz : (l.drop at_).length ≤ size := by rw [List.length_drop, hl, hrm.out]; exact hle.out
          rw [decide_eq_true h0.out, decide_eq_true hle.out, List.drop_of_length_le hdz, cutF_nil, List.take_of_length_le hdz] at e
          rw [e]
          refine ⟨_, ?_, hF7.out, hb7⟩
          rw [hn1.out]; rfl
        · have hor : bits .or .i64 0 64 = 64 := by decide
          have hlI : (rm : Int) ≤ (size : Int) := by omega
          have hlJ : ¬ ((size : Int) < (rm : Int)) := by omega
          have ha0 : ((at_ : Int) == 0) = false := by rw [beq_eq_false_iff_ne]; omega
          replace h0 := Lib.hid h0
          replace hle := Lib.hid hle
          have e1 : (64 : Int) = ((UInt8.ofNat 64).toNat : Int) := by decide
          have e2 : (nn : Int) / 65536 = ((UInt8.ofNat (nn / 65536)).toNat : Int) := by rw [UInt8.toNat_ofNat']; omega
          have e3 : (nn : Int) / 256 % 256 = ((UInt8.ofNat (nn / 256)).toNat : Int) := by rw [UInt8.toNat_ofNat']; omega
          have e4 : (nn : Int) % 256 = ((UInt8.ofNat nn).toNat : Int) := by rw [UInt8.toNat_ofNat']; omega
          replace e1 := Lib.hid e1
          replace e2 := Lib.hid e2
          replace e3 := Lib.hid e3
          replace e4 := Lib.hid e4
          obtain ⟨A6, hA6⟩ : ∃ A, headB nn 64 false ++ l.drop at_ = A := ⟨_, rfl⟩
          obtain ⟨m6, hm6⟩ : ∃ m, A6.length = m := ⟨_, rfl⟩
          replace hA6 := Lib.hid hA6
          replace hm6 := Lib.hid hm6
          go_wp2_with (first | (at_builtin; go_must (refine wp_litC (us := headB nn 64 false) rfl _ _ rfl (by rw [headB_len]; rfl) (cells_long e1.out e2.out e3.out e4.out) (by omega) rfl ad rm _ _ rfl (hBd.below hbr (Nat.le_refl _)) (by omega) hA6 hm6 ?_)))
          intro v6 w6 ho6 hb6
          obtain ⟨a6, c6, rfl⟩ := own_slice ho6
          have hown6 := own_below hown hb6
          go_wp2_with (at_builtin; go_must (refine wp_app1_at rfl _ _ 23 rfl w.heap.size 27 i1 _ 24 Try.underlying23 hj'.out hy0 hy1 hy2 rfl _ L.length xs rfl hown6 (.slice a6 _ c6) rfl rfl hm1 hm2 (Nat.le_trans hbr.size hb6.size) ?_))
          intro v7 w7 ho7 hg7 _
          obtain ⟨hF7, hb7⟩ := cut_round hbr hb6 hown heach ho6 ho7 hg7
          rw [← hA6.out] at hF7
          replace hF7 := Lib.hid hF7
          obtain ⟨a7, c7, rfl⟩ := own_slice ho7
          clear hown heach ho6 ho7 hg7 hb6 hown6 hBd hF
          go_wp2_with fail
          go_ret3
          have e := hE2.out
          have hdz : (l.drop at_).length ≤ size := by rw [List.length_drop, hl, hrm.out]; exact hle.out
          rw [decide_eq_false h0.out, decide_eq_true hle.out, List.drop_of_length_le hdz, cutF_nil, List.take_of_length_le hdz] at e
          rw [e]
          refine ⟨_, ?_, hF7.out, hb7⟩
          rw [hn1.out]; rfl
      · by_cases h0 : at_ = 0
        · have hlI : ¬ ((rm : Int) ≤ (size : Int)) := by omega
          have hlJ : (size : Int) < (rm : Int) := by omega
          have hst := fun W => run_take (P := Try.prog) Try.underlying27 hi'.out ad rm (c - at_) size (by omega) W
          have hBt := hBd.take (show size ≤ rm by omega)
          have ha0 : ((at_ : Int) == 0) = true := by rw [beq_iff_eq]; omega
          replace h0 := Lib.hid h0
          replace hle := Lib.hid hle
          have e1 : (128 : Int) = ((UInt8.ofNat 128).toNat : Int) := by decide
          have e2 : (nn : Int) / 65536 = ((UInt8.ofNat (nn / 65536)).toNat : Int) := by rw [UInt8.toNat_ofNat']; omega
          have e3 : (nn : Int) / 256 % 256 = ((UInt8.ofNat (nn / 256)).toNat : Int) := by rw [UInt8.toNat_ofNat']; omega
          have e4 : (nn : Int) % 256 = ((UInt8.ofNat nn).toNat : Int) := by rw [UInt8.toNat_ofNat']; omega
          replace e1 := Lib.hid e1
          replace e2 := Lib.hid e2
          replace e3 := Lib.hid e3
          replace e4 := Lib.hid e4
          obtain ⟨A6, hA6⟩ : ∃ A, headB nn 128 false ++ (l.drop at_).take size = A := ⟨_, rfl⟩
          obtain ⟨m6, hm6⟩ : ∃ m, A6.length = m := ⟨_, rfl⟩
          replace hA6 := Lib.hid hA6
          replace hm6 := Lib.hid hm6
          go_wp2_with (first | (at_builtin; go_must (refine wp_litC (us := headB nn 128 false) rfl _ _ rfl (by rw [headB_len]; rfl) (cells_long e1.out e2.out e3.out e4.out) (by omega) rfl ad size _ _ rfl (hBt.below hbr (Nat.le_refl _)) (by omega) hA6 hm6 ?_)))
          intro v6 w6 ho6 hb6
          obtain ⟨a6, c6, rfl⟩ := own_slice ho6
          have hown6 := own_below hown hb6
          go_wp2_with (at_builtin; go_must (refine wp_app1_at rfl _ _ 23 rfl w.heap.size 27 i1 _ 24 Try.underlying23 hj'.out hy0 hy1 hy2 rfl _ L.length xs rfl hown6 (.slice a6 _ c6) rfl rfl hm1 hm2 (Nat.le_trans hbr.size hb6.size) ?_))
          intro v7 w7 ho7 hg7 _
          obtain ⟨hF7, hb7⟩ := cut_round hbr hb6 hown heach ho6 ho7 hg7
          rw [← hA6.out] at hF7
          replace hF7 := Lib.hid hF7
          obtain ⟨a7, c7, rfl⟩ := own_slice ho7
          clear hown heach ho6 ho7 hg7 hb6 hown6 hBd hF
          go_wp2_with fail
          go_roundw
          case rel =>
            have e := hE2.out
            rw [decide_eq_true h0.out, decide_eq_false hle.out, List.drop_drop, hn1.out] at e
            have ez : decide (at_ + size = 0) = false := decide_eq_false (by omega)
            refine ⟨at_ + size, n1, fu, _, ?_, rfl, by omega, hn1R, Lib.hid (by have := hfu.out; omega), by rw [List.length_append, List.length_singleton]; omega, Lib.hid ?_, hF7.out, hb7⟩
            · simp
            · rw [e, ez, List.append_assoc, List.singleton_append]; rfl
          case measure => simp [intOf]; omega
        · have hlI : ¬ ((rm : Int) ≤ (size : Int)) := by omega
          have hlJ : (size : Int) < (rm : Int) := by omega
          have hst := fun W => run_take (P := Try.prog) Try.underlying27 hi'.out ad rm (c - at_) size (by omega) W
          have hBt := hBd.take (show size ≤ rm by omega)
          have ha0 : ((at_ : Int) == 0) = false := by rw [beq_eq_false_iff_ne]; omega
          replace h0 := Lib.hid h0
          replace hle := Lib.hid hle
          have e1 : (0 : Int) = ((UInt8.ofNat 0).toNat : Int) := by decide
          have e2 : (nn : Int) / 65536 = ((UInt8.ofNat (nn / 65536)).toNat : Int) := by rw [UInt8.toNat_ofNat']; omega
          have e3 : (nn : Int) / 256 % 256 = ((UInt8.ofNat (nn / 256)).toNat : Int) := by rw [UInt8.toNat_ofNat']; omega
          have e4 : (nn : Int) % 256 = ((UInt8.ofNat nn).toNat : Int) := by rw [UInt8.toNat_ofNat']; omega
          replace e1 := Lib.hid e1
          replace e2 := Lib.hid e2
          replace e3 := Lib.hid e3
          replace e4 := Lib.hid e4
          obtain ⟨A6, hA6⟩ : ∃ A, headB nn 0 false ++ (l.drop at_).take size = A := ⟨_, rfl⟩
          obtain ⟨m6, hm6⟩ : ∃ m, A6.length = m := ⟨_, rfl⟩
          replace hA6 := Lib.hid hA6
          replace hm6 := Lib.hid hm6
          go_wp2_with (first | (at_builtin; go_must (refine wp_litC (us := headB nn 0 false) rfl _ _ rfl (by rw [headB_len]; rfl) (cells_long e1.out e2.out e3.out e4.out) (by omega) rfl ad size _ _ rfl (hBt.below hbr (Nat.le_refl _)) (by omega) hA6 hm6 ?_)))
          intro v6 w6 ho6 hb6
          obtain ⟨a6, c6, rfl⟩ := own_slice ho6
          have hown6 := own_below hown hb6
          go_wp2_with (at_builtin; go_must (refine wp_app1_at rfl _ _ 23 rfl w.heap.size 27 i1 _ 24 Try.underlying23 hj'.out hy0 hy1 hy2 rfl _ L.length xs rfl hown6 (.slice a6 _ c6) rfl rfl hm1 hm2 (Nat.le_trans hbr.size hb6.size) ?_))
          intro v7 w7 ho7 hg7 _
          obtain ⟨hF7, hb7⟩ := cut_round hbr hb6 hown heach ho6 ho7 hg7
          rw [← hA6.out] at hF7
          replace hF7 := Lib.hid hF7
          obtain ⟨a7, c7, rfl⟩ := own_slice ho7
          clear hown heach ho6 ho7 hg7 hb6 hown6 hBd hF
          go_wp2_with fail
          go_roundw
          case rel =>
            have e := hE2.out
            rw [decide_eq_false h0.out, decide_eq_false hle.out, List.drop_drop, hn1.out] at e
            have ez : decide (at_ + size = 0) = false := decide_eq_false (by omega)
            refine ⟨at_ + size, n1, fu, _, ?_, rfl, by omega, hn1R, Lib.hid (by have := hfu.out; omega), by rw [List.length_append, List.length_singleton]; omega, Lib.hid ?_, hF7.out, hb7⟩
            · simp
            · rw [e, ez, List.append_assoc, List.singleton_append]; rfl
          case measure => simp [intOf]; omega
  · have hring := Lib.hid (rring_any true)
    have hRb : rgN true ≤ 4096 ∧ 0 < rgN true := by decide
    generalize rgN true = R at *
    have hfI : (first : Int) < (R : Int) := by omega
    have hfN : ¬ R ≤ first := by omega
    go_enter Try.func17, Try.ntmps17
    go_wp2_with (go_at_call 31; refine (hring.out _).mono ?_; rintro e w' ⟨rfl, rfl⟩)
    go_loopw [2, 12, 13] (fun v2 vo va wr => ∃ (at_ nn fu : Nat) (L : List (List UInt8)), va = .int .i64 at_ ∧ v2 = .int .i64 nn ∧ at_ < n ∧ nn < R ∧ Hid (n - at_ ≤ fu) ∧ L.length ≤ at_ ∧
      Hid (cutF R size true n (flagN true false) first l = (L ++ (cutF R size true fu (flagN (decide (at_ = 0)) false) nn (l.drop at_)).1, (cutF R size true fu (flagN (decide (at_ = 0)) false) nn (l.drop at_)).2)) ∧ Fr wr w.heap.size vo L ∧ Below w.heap.size w wr) (fun _ _ va _ => n - (intOf va).toNat)
    case atStart => exact ⟨0, first, n, [], rfl, rfl, hn, hf, Lib.hid (by omega), by simp, Lib.hid (by simp), Fr.nil _ _, Below.refl _ _⟩
    case round =>
      obtain ⟨at_, nn, fu, L, rfl, rfl, hat, hnn, hfu, hL, hE, hF, hbr⟩ := hrel
      have hatI : (at_ : Int) < (n : Int) := by omega
      obtain ⟨fu, rfl⟩ : ∃ f', fu = f' + 1 := ⟨fu - 1, by have := hfu.out; omega⟩
      have hE2 := hE.out
      rw [cutF_one (by rw [List.length_drop]; omega), List.length_drop, hl] at hE2
      obtain ⟨rm, hrm⟩ : ∃ rm, n - at_ = rm := ⟨_, rfl⟩
      rw [hrm] at hE2
      have hrmI : (n : Int) - (at_ : Int) = (rm : Int) := by omega
      have hsl := fun W => run_sub (P := Try.prog) Try.underlying27 hi'.out hz1 a n c at_ (by omega) W
      have hBd := h.drop (show at_ ≤ n by omega)
      rw [hrm] at hsl hBd
      generalize (if c = at_ then a else a.map (·.add at_)) = ad at hsl hBd
      replace hrm := Lib.hid hrm
      replace hE2 := Lib.hid hE2
      obtain ⟨n1, hn1⟩ : ∃ n1, (nn + 1) % R = n1 := ⟨_, rfl⟩
      have hrem : ((nn : Int) + 1).tmod (R : Int) = (n1 : Int) := by rw [Int.tmod_eq_emod_of_nonneg (by omega), ← hn1, show (nn : Int) + 1 = ((nn + 1 : Nat) : Int) by omega]; exact (Int.natCast_emod _ _).symm
      have hRz : ((R : Int) == 0) = false := by rw [beq_eq_false_iff_ne]; omega
      have hn1R : n1 < R := by rw [← hn1]; exact Nat.mod_lt _ (by omega)
      replace hn1 := Lib.hid hn1
      have hm1 : L.length + 1 ≤ maxLen := by unfold maxLen; omega
      have hm2 : (L.length + 1) * 24 ≤ 140737488355328 := by omega
      obtain ⟨xs, hown, heach⟩ := hF.ex
      by_cases hle : rm ≤ size
      · by_cases h0 : at_ = 0
        · have hor : bits .or .i64 128 64 = 192 := by decide
          have hlI : (rm : Int) ≤ (size : Int) := by omega
          have hlJ : ¬ ((size : Int) < (rm : Int)) := by omega
          have ha0 : ((at_ : Int) == 0) = true := by rw [beq_iff_eq]; omega
          replace h0 := Lib.hid h0
          replace hle := Lib.hid hle
          have e1 : bits .or .i64 192 ((nn : Int) / 256) % 256 = ((UInt8.ofNat (192 ||| nn / 256)).toNat : Int) := by
            have h5 := i64_or_nat 192 (nn / 256) (by decide) (by omega)
            have h6 : (((192 : Nat) : Int)) = 192 := rfl
            rw [h6, show (((nn / 256 : Nat)) : Int) = (nn : Int) / 256 by omega] at h5
            rw [h5]
            generalize 192 ||| nn / 256 = x
            simp
          have e2 : (nn : Int) % 256 = ((UInt8.ofNat nn).toNat : Int) := by rw [UInt8.toNat_ofNat']; omega
          replace e1 := Lib.hid e1
          replace e2 := Lib.hid e2
          obtain ⟨A6, hA6⟩ : ∃ A, headB nn 192 true ++ l.drop at_ = A := ⟨_, rfl⟩
          obtain ⟨m6, hm6⟩ : ∃ m, A6.length = m := ⟨_, rfl⟩
          replace hA6 := Lib.hid hA6
          replace hm6 := Lib.hid hm6
          go_wp2_with (first | (at_builtin; go_must (refine wp_litC (us := headB nn 192 true) rfl _ _ rfl (by rw [headB_len]; rfl) (cells_short e1.out e2.out) (by omega) rfl ad rm _ _ rfl (hBd.below hbr (Nat.le_refl _)) (by omega) hA6 hm6 ?_)))
          intro v6 w6 ho6 hb6
          obtain ⟨a6, c6, rfl⟩ := own_slice ho6
          have hown6 := own_below hown hb6
          go_wp2_with (at_builtin; go_must (refine wp_app1_at rfl _ _ 23 rfl w.heap.size 27 i1 _ 24 Try.underlying23 hj'.out hy0 hy1 hy2 rfl _ L.length xs rfl hown6 (.slice a6 _ c6) rfl rfl hm1 hm2 (Nat.le_trans hbr.size hb6.size) ?_))
          intro v7 w7 ho7 hg7 _
          obtain ⟨hF7, hb7⟩ := cut_round hbr hb6 hown heach ho6 ho7 hg7
          rw [← hA6.out] at hF7
          replace hF7 := Lib.hid hF7
          obtain ⟨a7, c7, rfl⟩ := own_slice ho7
          clear hown heach ho6 ho7 hg7 hb6 hown6 hBd hF
          go_wp2_with fail
          go_ret3
          have e := hE2.out
          have hdz : (l.drop at_).length ≤ size := by rw [List.length_drop, hl, hrm.out]; exact hle.out
          rw [decide_eq_true h0.out, decide_eq_true hle.out, List.drop_of_length_le hdz, cutF_nil, List.take_of_length_le hdz] at e
          rw [e]
          refine ⟨_, ?_, hF7.out, hb7⟩
          rw [hn1.out]; rfl
        · have hor : bits .or .i64 0 64 = 64 := by decide
          have hlI : (rm : Int) ≤ (size : Int) := by omega
          have hlJ : ¬ ((size : Int) < (rm : Int)) := by omega
          have ha0 : ((at_ : Int) == 0) = false := by rw [beq_eq_false_iff_ne]; omega
          replace h0 := Lib.hid h0
          replace hle := Lib.hid hle
          have e1 : bits .or .i64 64 ((nn : Int) / 256) % 256 = ((UInt8.ofNat (64 ||| nn / 256)).toNat : Int) := by
            have h5 := i64_or_nat 64 (nn / 256) (by decide) (by omega)
            have h6 : (((64 : Nat) : Int)) = 64 := rfl
            rw [h6, show (((nn / 256 : Nat)) : Int) = (nn : Int) / 256 by omega] at h5
            rw [h5]
            generalize 64 ||| nn / 256 = x
            simp
          have e2 : (nn : Int) % 256 = ((UInt8.ofNat nn).toNat : Int) := by rw [UInt8.toNat_ofNat']; omega
          replace e1 := Lib.hid e1
          replace e2 := Lib.hid e2
          obtain ⟨A6, hA6⟩ : ∃ A, headB nn 64 true ++ l.drop at_ = A := ⟨_, rfl⟩
          obtain ⟨m6, hm6⟩ : ∃ m, A6.length = m := ⟨_, rfl⟩
          replace hA6 := Lib.hid hA6
          replace hm6 := Lib.hid hm6
          go_wp2_with (first | (at_builtin; go_must (refine wp_litC (us := headB nn 64 true) rfl _ _ rfl (by rw [headB_len]; rfl) (cells_short e1.out e2.out) (by omega) rfl ad rm _ _ rfl (hBd.below hbr (Nat.le_refl _)) (by omega) hA6 hm6 ?_)))
          intro v6 w6 ho6 hb6
          obtain ⟨a6, c6, rfl⟩ := own_slice ho6
          have hown6 := own_below hown hb6
          go_wp2_with (at_builtin; go_must (refine wp_app1_at rfl _ _ 23 rfl w.heap.size 27 i1 _ 24 Try.underlying23 hj'.out hy0 hy1 hy2 rfl _ L.length xs rfl hown6 (.slice a6 _ c6) rfl rfl hm1 hm2 (Nat.le_trans hbr.size hb6.size) ?_))
          intro v7 w7 ho7 hg7 _
          obtain ⟨hF7, hb7⟩ := cut_round hbr hb6 hown heach ho6 ho7 hg7
          rw [← hA6.out] at hF7
          replace hF7 := Lib.hid hF7
          obtain ⟨a7, c7, rfl⟩ := own_slice ho7
          clear hown heach ho6 ho7 hg7 hb6 hown6 hBd hF
          go_wp2_with fail
          go_ret3
          have e := hE2.out
          have hdz : (l.drop at_).length ≤ size := by rw [List.length_drop, hl, hrm.out]; exact hle.out
          rw [decide_eq_false h0.out, decide_eq_true hle.out, List.drop_of_length_le hdz, cutF_nil, List.take_of_length_le hdz] at e
          rw [e]
          refine ⟨_, ?_, hF7.out, hb7⟩
          rw [hn1.out]; rfl
      · by_cases h0 : at_ = 0
        · have hlI : ¬ ((rm : Int) ≤ (size : Int)) := by omega
          have hlJ : (size : Int) < (rm : Int) := by omega
          have hst := fun W => run_take (P := Try.prog) Try.underlying27 hi'.out ad rm (c - at_) size (by omega) W
          have hBt := hBd.take (show size ≤ rm by omega)
          have ha0 : ((at_ : Int) == 0) = true := by rw [beq_iff_eq]; omega
          replace h0 := Lib.hid h0
          replace hle := Lib.hid hle
          have e1 : bits .or .i64 128 ((nn : Int) / 256) % 256 = ((UInt8.ofNat (128 ||| nn / 256)).toNat : Int) := by
            have h5 := i64_or_nat 128 (nn / 256) (by decide) (by omega)
            have h6 : (((128 : Nat) : Int)) = 128 := rfl
            rw [h6, show (((nn / 256 : Nat)) : Int) = (nn : Int) / 256 by omega] at h5
            rw [h5]
            generalize 128 ||| nn / 256 = x
            simp
          have e2 : (nn : Int) % 256 = ((UInt8.ofNat nn).toNat : Int) := by rw [UInt8.toNat_ofNat']; omega
          replace e1 := Lib.hid e1
          replace e2 := Lib.hid e2
          obtain ⟨A6, hA6⟩ : ∃ A, headB nn 128 true ++ (l.drop at_).take size = A := ⟨_, rfl⟩
          obtain ⟨m6, hm6⟩ : ∃ m, A6.length = m := ⟨_, rfl⟩
          replace hA6 := Lib.hid hA6
          replace hm6 := Lib.hid hm6
          go_wp2_with (first | (at_builtin; go_must (refine wp_litC (us := headB nn 128 true) rfl _ _ rfl (by rw [headB_len]; rfl) (cells_short e1.out e2.out) (by omega) rfl ad size _ _ rfl (hBt.below hbr (Nat.le_refl _)) (by omega) hA6 hm6 ?_)))
          intro v6 w6 ho6 hb6
          obtain ⟨a6, c6, rfl⟩ := own_slice ho6
          have hown6 := own_below hown hb6
          go_wp2_with (at_builtin; go_must (refine wp_app1_at rfl _ _ 23 rfl w.heap.size 27 i1 _ 24 Try.underlying23 hj'.out hy0 hy1 hy2 rfl _ L.length xs rfl hown6 (.slice a6 _ c6) rfl rfl hm1 hm2 (Nat.le_trans hbr.size hb6.size) ?_))
          intro v7 w7 ho7 hg7 _
          obtain ⟨hF7, hb7⟩ := cut_round hbr hb6 hown heach ho6 ho7 hg7
          rw [← hA6.out] at hF7
          replace hF7 := Lib.hid hF7
          obtain ⟨a7, c7, rfl⟩ := own_slice ho7
          clear hown heach ho6 ho7 hg7 hb6 hown6 hBd hF
          go_wp2_with fail
          go_roundw
          case rel =>
            have e := hE2.out
            rw [decide_eq_true h0.out, decide_eq_false hle.out, List.drop_drop, hn1.out] at e
            have ez : decide (at_ + size = 0) = false := decide_eq_false (by omega)
            refine ⟨at_ + size, n1, fu, _, ?_, rfl, by omega, hn1R, Lib.hid (by have := hfu.out; omega), by rw [List.length_append, List.length_singleton]; omega, Lib.hid ?_, hF7.out, hb7⟩
            · simp
            · rw [e, ez, List.append_assoc, List.singleton_append]; rfl
          case measure => simp [intOf]; omega
        · have hlI : ¬ ((rm : Int) ≤ (size : Int)) := by omega
          have hlJ : (size : Int) < (rm : Int) := by omega
          have hst := fun W => run_take (P := Try.prog) Try.underlying27 hi'.out ad rm (c - at_) size (by omega) W
          have hBt := hBd.take (show size ≤ rm by omega)
          have ha0 : ((at_ : Int) == 0) = false := by rw [beq_eq_false_iff_ne]; omega
          replace h0 := Lib.hid h0
          replace hle := Lib.hid hle
          have e1 : bits .or .i64 0 ((nn : Int) / 256) % 256 = ((UInt8.ofNat (0 ||| nn / 256)).toNat : Int) := by
            have h5 := i64_or_nat 0 (nn / 256) (by decide) (by omega)
            have h6 : (((0 : Nat) : Int)) = 0 := rfl
            rw [h6, show (((nn / 256 : Nat)) : Int) = (nn : Int) / 256 by omega] at h5
            rw [h5]
            generalize 0 ||| nn / 256 = x
            simp
          have e2 : (nn : Int) % 256 = ((UInt8.ofNat nn).toNat : Int) := by rw [UInt8.toNat_ofNat']; omega
          replace e1 := Lib.hid e1
          replace e2 := Lib.hid e2
          obtain ⟨A6, hA6⟩ : ∃ A, headB nn 0 true ++ (l.drop at_).take size = A := ⟨_, rfl⟩
          obtain ⟨m6, hm6⟩ : ∃ m, A6.length = m := ⟨_, rfl⟩
          replace hA6 := Lib.hid hA6
          replace hm6 := Lib.hid hm6
          go_wp2_with (first | (at_builtin; go_must (refine wp_litC (us := headB nn 0 true) rfl _ _ rfl (by rw [headB_len]; rfl) (cells_short e1.out e2.out) (by omega) rfl ad size _ _ rfl (hBt.below hbr (Nat.le_refl _)) (by omega) hA6 hm6 ?_)))
          intro v6 w6 ho6 hb6
          obtain ⟨a6, c6, rfl⟩ := own_slice ho6
          have hown6 := own_below hown hb6
          go_wp2_with (at_builtin; go_must (refine wp_app1_at rfl _ _ 23 rfl w.heap.size 27 i1 _ 24 Try.underlying23 hj'.out hy0 hy1 hy2 rfl _ L.length xs rfl hown6 (.slice a6 _ c6) rfl rfl hm1 hm2 (Nat.le_trans hbr.size hb6.size) ?_))
          intro v7 w7 ho7 hg7 _
          obtain ⟨hF7, hb7⟩ := cut_round hbr hb6 hown heach ho6 ho7 hg7
          rw [← hA6.out] at hF7
          replace hF7 := Lib.hid hF7
          obtain ⟨a7, c7, rfl⟩ := own_slice ho7
          clear hown heach ho6 ho7 hg7 hb6 hown6 hBd hF
          go_wp2_with fail
          go_roundw
          case rel =>
            have e := hE2.out
            rw [decide_eq_false h0.out, decide_eq_false hle.out, List.drop_drop, hn1.out] at e
            have ez : decide (at_ + size = 0) = false := decide_eq_false (by omega)
            refine ⟨at_ + size, n1, fu, _, ?_, rfl, by omega, hn1R, Lib.hid (by have := hfu.out; omega), by rw [List.length_append, List.length_singleton]; omega, Lib.hid ?_, hF7.out, hb7⟩
            · simp
            · rw [e, ez, List.append_assoc, List.singleton_append]; rfl
          case measure => simp [intOf]; omega
theorem rcut_arg {w : World} {a : Option Addr} {n c : Nat} (size first : Int) (short : Bool) (h : n = 0 ∨ size < 1 ∨ first < 0 ∨ (rgN short : Int) ≤ first) :
    Calls Try.prog 17 #[.slice a n c, .int .i64 size, .int .i64 first, .bool short] w fun e w' => e = .returned (.tuple #[.slice none 0 0, .int .i64 0, .int .i64 1]) ∧ w = w' := by
  have hring := Lib.hid (rring_any short)
  generalize rgN short = R at *
  by_cases h1 : n = 0
  · subst h1
    clear h
    go_enter Try.func17, Try.ntmps17
    go_wp2_with (go_at_call 31; refine (hring.out _).mono ?_; rintro e w' ⟨rfl, rfl⟩)
    go_ret3
    exact ⟨rfl, rfl⟩
  have hn0 : ((n : Int) == 0) = false := by rw [beq_eq_false_iff_ne]; omega
  by_cases h2 : size < 1
  · clear h
    go_enter Try.func17, Try.ntmps17
    go_wp2_with (go_at_call 31; refine (hring.out _).mono ?_; rintro e w' ⟨rfl, rfl⟩)
    go_ret3
    exact ⟨rfl, rfl⟩
  have hs1 : 1 ≤ size := by omega
  by_cases h3 : first < 0
  · clear h h2
    go_enter Try.func17, Try.ntmps17
    go_wp2_with (go_at_call 31; refine (hring.out _).mono ?_; rintro e w' ⟨rfl, rfl⟩)
    go_ret3
    exact ⟨rfl, rfl⟩
  have hf0 : 0 ≤ first := by omega
  have h4 : (R : Int) ≤ first := by omega
  clear h h2 h3
  · skip
    go_enter Try.func17, Try.ntmps17
    go_wp2_with (go_at_call 31; refine (hring.out _).mono ?_; rintro e w' ⟨rfl, rfl⟩)
    go_ret3
    exact ⟨rfl, rfl⟩
set_option maxRecDepth 100000 in
set_option maxHeartbeats 1000000 in
theorem rcut_long {w : World} {a : Option Addr} {n c : Nat} (size first : Nat) (short : Bool) (hn : 0 < n) (hs : 0 < size) (hf : first < rgN short) (hd : 16 ≤ (n - 1) / size) (hn2 : n ≤ 9223372036854775807) :
    Calls Try.prog 17 #[.slice a n c, .int .i64 (size : Nat), .int .i64 (first : Nat), .bool short] w fun e w' => e = .returned (.tuple #[.slice none 0 0, .int .i64 0, .int .i64 3]) ∧ w = w' := by
  have hring := Lib.hid (rring_any short)
  generalize rgN short = R at *
  have hquo : ((n : Int) - 1).tdiv (size : Int) = (((n - 1) / size : Nat) : Int) := by rw [Int.tdiv_eq_ediv_of_nonneg (by omega), show (n : Int) - 1 = ((n - 1 : Nat) : Int) by omega]; exact (Int.natCast_ediv _ _).symm
  have hfI : (first : Int) < (R : Int) := by omega
  have hn0 : ((n : Int) == 0) = false := by rw [beq_eq_false_iff_ne]; omega
  have hs1 : (1 : Int) ≤ (size : Int) := by omega
  have hf0 : (0 : Int) ≤ (first : Int) := by omega
  have hq2 : (n - 1) / size ≤ 9223372036854775806 := Nat.le_trans (Nat.div_le_self _ _) (by omega)
  generalize (n - 1) / size = q at hquo hd hq2
  have hqI : (q : Int) ≤ 9223372036854775806 := by omega
  have hdI : (16 : Int) < (q : Int) + 1 := by omega
  clear hf hd hq2
  · skip
    go_enter Try.func17, Try.ntmps17
    go_wp2_with (go_at_call 31; refine (hring.out _).mono ?_; rintro e w' ⟨rfl, rfl⟩)
    go_ret3
    exact ⟨rfl, rfl⟩
theorem rcut_any {w : World} {a : Option Addr} {n c : Nat} {l : List UInt8} (size first : Int) (short : Bool) (h : Bts w a n c l) (hn2 : n ≤ 100000) (hs2 : size ≤ 9223372036854775807) :
    Calls Try.prog 17 #[.slice a n c, .int .i64 size, .int .i64 first, .bool short] w fun e w' => ∃ v, e = .returned (.tuple #[v, .int .i64 ((cutP l size first short).2.1 : Nat), .int .i64 ((cutP l size first short).2.2 : Nat)]) ∧
      Fr w' w.heap.size v (cutP l size first short).1 ∧ Below w.heap.size w w' := by
  have hl := h.len
  unfold cutP
  by_cases h1 : l.length = 0 ∨ size < 1 ∨ first < 0 ∨ (rgN short : Int) ≤ first
  · rw [if_pos h1]
    refine (rcut_arg size first short (by omega)).mono ?_
    rintro e w' ⟨rfl, rfl⟩
    exact ⟨_, rfl, Fr.nil _ _, Below.refl _ _⟩
  · rw [if_neg h1]
    obtain ⟨sz, rfl⟩ := Int.eq_ofNat_of_zero_le (show 0 ≤ size by omega)
    obtain ⟨ft, rfl⟩ := Int.eq_ofNat_of_zero_le (show 0 ≤ first by omega)
    simp only [Int.toNat_natCast]
    by_cases h2 : 16 ≤ (l.length - 1) / sz
    · rw [if_pos h2]
      refine (rcut_long sz ft short (by omega) (by omega) (by omega) (by rw [← hl]; exact h2) (by omega)).mono ?_
      rintro e w' ⟨rfl, rfl⟩
      exact ⟨_, rfl, Fr.nil _ _, Below.refl _ _⟩
    · rw [if_neg h2]
      refine (rcut_ok sz ft short h (by omega) hn2 (by omega) (by omega) (by omega) (by rw [← hl]; omega)).mono ?_
      rintro e w' ⟨v, rfl, hF, hb⟩
      rw [← hl] at hF ⊢
      exact ⟨v, rfl, hF, hb⟩
end Go.Proofs.Ytglmlhbchfgliaa
