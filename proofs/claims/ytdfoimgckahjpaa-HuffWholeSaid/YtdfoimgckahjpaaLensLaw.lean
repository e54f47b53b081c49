/-
  The walk of HuffLengths. No conditions.
-/
import Derived.Test.YtdfoimgckahjpaaLens
import Derived.Test.YtdfoimgckahjpaaHuffAw
import Derived.Test.YtdfoimgckahjpaaHuffRNew
import Derived.BigQuiet
namespace Go.Proofs.Ytdfoimgckahjpaa
open Go.RowKit
theorem run_max2 {P : Program} (w : World) (ts : Array TypeId) (t : TypeId) (x y : Nat) :
    (Builtin.max_ ts t #[.int .i64 x, .int .i64 y]).run P w = .ok (.int .i64 ((max x y : Nat) : Int)) w := by
  simp only [Builtin.max_, List.foldlM, Builtin.max2, pure_bind]
  have h : ∀ a b : Nat, (if (a : Int) < (b : Int) then (b : Int) else (a : Int)) = ((max a b : Nat) : Int) := by
    intro a b; rw [Nat.max_def]; split <;> split <;> omega
  rw [h]
  rfl
/-- is what is asked bad, by the first counts? -/
def badB (most : Int) (M : List Int) : Bool := decide (most < 1) || decide (15 < most) || M.any fun x => decide (x < 0) || decide (1073741824 < x)
def manyZ (M : List Int) : Nat := M.countP fun x => decide (0 < x)
theorem badB_snoc (most : Int) (M : List Int) (x : Int) : badB most (M ++ [x]) = (badB most M || (decide (x < 0) || decide (1073741824 < x))) := by
  unfold badB; rw [List.any_append]; simp [Bool.or_assoc]
theorem manyZ_snoc (M : List Int) (x : Int) : manyZ (M ++ [x]) = if 0 < x then manyZ M + 1 else manyZ M := by
  unfold manyZ
  rw [List.countP_append]
  by_cases h : 0 < x
  · rw [if_pos h, List.countP_cons_of_pos (by simpa using h)]; rfl
  · rw [if_neg h, List.countP_cons_of_neg (by simpa using h)]; rfl
theorem manyZ_le (M : List Int) : manyZ M ≤ M.length := List.countP_le_length
theorem manyZ_ints (L : List Nat) : manyZ (ints L) = manyC L := by
  unfold manyZ manyC ints
  rw [List.countP_map]
  congr 1
  funext x
  show decide ((0 : Int) < (x : Int)) = decide (0 < x)
  by_cases h : 0 < x
  · rw [decide_eq_true h, decide_eq_true (by omega)]
  · rw [decide_eq_false h, decide_eq_false (by omega)]
theorem badB_true {most : Int} {L : List Nat} {mo : Nat} (h : badB most (ints L) = true) (h1 : most = (mo : Int)) (h2 : 1 ≤ mo) (h3 : mo ≤ 15) (h4 : ∀ x, x ∈ L → x ≤ 1073741824) : False := by
  unfold badB at h
  rw [decide_eq_false (by omega), decide_eq_false (by omega)] at h
  simp only [Bool.false_or, List.any_eq_true] at h
  obtain ⟨x, hx, h5⟩ := h
  obtain ⟨y, hy, rfl⟩ := List.mem_map.1 hx
  have := h4 y hy
  rw [decide_eq_false (show ¬ Int.ofNat y < 0 by show ¬ ((y : Int) < 0); omega), decide_eq_false (show ¬ 1073741824 < Int.ofNat y by show ¬ (1073741824 < (y : Int)); omega)] at h5
  cases h5
theorem badB_false {most : Int} {l : List Int} (h : badB most l = false) : ∃ (L : List Nat) (mo : Nat), l = ints L ∧ most = (mo : Int) ∧ 1 ≤ mo ∧ mo ≤ 15 ∧ ∀ x, x ∈ L → x ≤ 1073741824 := by
  unfold badB at h
  simp only [Bool.or_eq_false_iff, decide_eq_false_iff_not, List.any_eq_false] at h
  obtain ⟨⟨h1, h2⟩, h3⟩ := h
  obtain ⟨mo, rfl⟩ := Int.eq_ofNat_of_zero_le (by omega : 0 ≤ most)
  have h4 : ∀ x, x ∈ l → 0 ≤ x ∧ x ≤ 1073741824 := fun x hx => by
    have := h3 x hx
    simp only [Bool.or_eq_true, decide_eq_true_iff, not_or] at this
    omega
  refine ⟨l.map Int.toNat, mo, ?_, rfl, by omega, by omega, fun x hx => ?_⟩
  · unfold ints
    rw [List.map_map]
    conv => lhs; rw [← List.map_id l]
    exact List.map_congr_left fun x hx => by
      have := (h4 x hx).1
      show x = ((x.toNat : Nat) : Int)
      omega
  · obtain ⟨y, hy, rfl⟩ := List.mem_map.1 hx
    have := h4 y hy
    omega
theorem and15 {m : Nat} (h : m ≤ 15) : bits .and .i64 (m : Int) 15 = (m : Int) := by
  have : ∀ k : Fin 16, bits .and .i64 ((k.val : Nat) : Int) 15 = ((k.val : Nat) : Int) := by decide +kernel
  exact this ⟨m, by omega⟩
theorem lensBad_many {L : List Nat} {most : Int} {mo : Nat} (h : LensBad (ints L) most) (h1 : most = (mo : Int)) (h2 : 1 ≤ mo) (h3 : mo ≤ 15) (h4 : ∀ x, x ∈ L → x ≤ 1073741824) (h5 : L.length ≤ 320) : 2 ^ mo < manyC L := by
  rcases h with h | h | h | ⟨x, hx, h⟩ | ⟨M, m2, e1, e2, h⟩
  · simp [ints] at h; omega
  · omega
  · omega
  · obtain ⟨y, hy, rfl⟩ := List.mem_map.1 hx
    have := h4 y hy
    have e : Int.ofNat y = (y : Int) := rfl
    omega
  · rw [ints_inj e1]
    obtain rfl : mo = m2 := by omega
    exact h
theorem costTo_le {L R : List Nat} (h1 : ∀ x, x ∈ L → x ≤ 1073741824) (h2 : ∀ i, R.getD i 0 ≤ 15) : ∀ k, costTo L R k ≤ k * 16106127360
  | 0 => by simp [costTo]
  | k + 1 => by
    have a := costTo_le h1 h2 k
    have b := Nat.mul_le_mul (getD_le_all h1 k) (h2 k)
    rw [costTo_succ]; omega
theorem sumTo_le {L : List Nat} (h1 : ∀ x, x ∈ L → x ≤ 1073741824) : ∀ k, sumTo L k ≤ k * 1073741824
  | 0 => by simp [sumTo]
  | k + 1 => by
    have a := sumTo_le h1 k
    have b := getD_le_all h1 k
    rw [sumTo_succ]; omega
theorem lengths_big {a1 : Option Addr} {n1 c1 : Nat} {most : Int} {w : World} (h : 320 < n1) (hn1 : n1 ≤ 9223372036854775807) :
    Calls Try.prog 13 #[.slice a1 n1 c1, .int .i64 most] w fun e w' => e = .returned (.bool true) ∧ Below w.heap.size w w' := by
  have hI : (320 : Int) < (n1 : Int) := by omega
  go_enter Try.func13, Try.ntmps13
  go_wp2_with (go_at_call 19; refine (awake_any _).mono ?_; rintro e w1 ⟨rfl, hb⟩)
  go_ret
  exact ⟨rfl, hb⟩
set_option maxRecDepth 100000 in
set_option maxHeartbeats 8000000 in
theorem lengths_in {a1 : Option Addr} {n1 c1 : Nat} {l : List Int} {most : Int} {w : World} (hL : Zs w a1 n1 c1 l) (h1 : n1 ≤ 320) (hwf : -9223372036854775808 ≤ most ∧ most ≤ 9223372036854775807) :
    Calls Try.prog 13 #[.slice a1 n1 c1, .int .i64 most] w fun e w' => e = .returned (.bool true) ∧ Below w.heap.size w w' := by
  have hln := hL.len
  have h1I : (n1 : Int) ≤ 320 := by omega
  go_enter Try.func13, Try.ntmps13
  go_upto_region 6 with (go_at_call 19; refine (awake_any _).mono ?_; rintro e w1 ⟨rfl, hb⟩)
  go_cut [6] (fun t W => t = .bool (badB most []) ∧ W = w1)
  case first =>
    by_cases k1 : most < 1
    · have hfin := Lib.hid (show Value.bool true = .bool (badB most []) by unfold badB; rw [decide_eq_true k1]; rfl)
      go_wp2_with fail
      go_meet
      exact ⟨hfin.out, rfl⟩
    · by_cases k2 : 15 < most
      · have hfin := Lib.hid (show Value.bool true = .bool (badB most []) by unfold badB; rw [decide_eq_false k1, decide_eq_true k2]; rfl)
        go_wp2_with fail
        go_meet
        exact ⟨hfin.out, rfl⟩
      · have hfin := Lib.hid (show Value.bool false = .bool (badB most []) by unfold badB; rw [decide_eq_false k1, decide_eq_false k2]; rfl)
        go_wp2_with fail
        go_meet
        exact ⟨hfin.out, rfl⟩
  case rest =>
    obtain ⟨rfl, rfl⟩ := hcut
    obtain ⟨w1, hw1⟩ : ∃ x, x = wc := ⟨_, rfl⟩
    subst hw1
    have hL1 := hL.below hb (Nat.le_refl _)
    clear hL
    go_wp2_with fail
    go_loopw [5, 6, 7] (fun v5 v6 v7 wr => ∃ (k q : Nat) (B : Bool), k ≤ n1 ∧ v7 = .int .i64 (k : Nat) ∧ v5 = .int .i64 (q : Nat) ∧ v6 = .bool B ∧ Hid (q = manyZ (l.take k) ∧ B = badB most (l.take k)) ∧ q ≤ k ∧ w1 = wr) (fun _ _ v7 _ => n1 - (intOf v7).toNat)
    case atStart => exact ⟨0, 0, _, Nat.zero_le _, rfl, rfl, rfl, Lib.hid ⟨rfl, by rw [List.take_zero]⟩, Nat.le_refl _, by first | rfl | trivial⟩
    case round =>
      obtain ⟨k, q, B, hk, rfl, rfl, rfl, hQ, hq, hwr⟩ := hrel
      subst hwr
      by_cases hlt : k < n1
      · have hltI : (k : Int) < (n1 : Int) := by omega
        obtain ⟨b1, o1, rfl, g1⟩ := hL1.cell k hlt
        replace g1 : w1.cell? ⟨b1, o1 + k, none⟩ = some (.int .i64 (l.getD k 0)) := g1
        have htk := take_snoc_z (l := l) (k := k) (by omega)
        have hms := manyZ_snoc (l.take k) (l.getD k 0)
        have hbs := badB_snoc most (l.take k) (l.getD k 0)
        rw [← htk, ← hQ.out.1] at hms
        rw [← htk, ← hQ.out.2] at hbs
        generalize l.getD k 0 = x at *
        have hqI : (q : Int) ≤ 320 := by omega
        clear htk hQ
        by_cases k1 : x < 0
        · rw [if_neg (by omega)] at hms
          rw [decide_eq_true k1, Bool.true_or, Bool.or_true] at hbs
          have hnx := Lib.hid (And.intro hms.symm hbs.symm)
          clear hms hbs
          go_wp2_with fail
          go_roundw
          case rel => exact ⟨k + 1, q, true, by omega, by go_num, rfl, rfl, hnx, by omega, by first | rfl | trivial⟩
          case measure => simp [intOf]; omega
        · by_cases k2 : 1073741824 < x
          · rw [if_pos (by omega)] at hms
            rw [decide_eq_true k2, Bool.or_true, Bool.or_true] at hbs
            have hnx := Lib.hid (And.intro hms.symm hbs.symm)
            have k3 : 0 < x := by omega
            clear hms hbs
            go_wp2_with fail
            go_roundw
            case rel => exact ⟨k + 1, q + 1, true, by omega, by go_num, by go_num, rfl, hnx, by omega, by first | rfl | trivial⟩
            case measure => simp [intOf]; omega
          · rw [decide_eq_false k1, decide_eq_false k2, Bool.or_false, Bool.or_false] at hbs
            by_cases k3 : 0 < x
            · rw [if_pos k3] at hms
              have hnx := Lib.hid (And.intro hms.symm hbs.symm)
              clear hms hbs
              go_wp2_with fail
              go_roundw
              case rel => exact ⟨k + 1, q + 1, B, by omega, by go_num, by go_num, rfl, hnx, by omega, by first | rfl | trivial⟩
              case measure => simp [intOf]; omega
            · rw [if_neg k3] at hms
              have hnx := Lib.hid (And.intro hms.symm hbs.symm)
              clear hms hbs
              go_wp2_with fail
              go_roundw
              case rel => exact ⟨k + 1, q, B, by omega, by go_num, rfl, rfl, hnx, by omega, by first | rfl | trivial⟩
              case measure => simp [intOf]; omega
      · obtain rfl : k = n1 := by omega
        obtain ⟨hQ1, hQ2⟩ := hQ.out
        rw [List.take_of_length_le (by omega)] at hQ1 hQ2
        have hlens := Lib.hid (lens_any hL1 (by omega) hwf)
        have hqI : (q : Int) ≤ 320 := by omega
        cases B with
        | true =>
          go_wp2_with fail
          refine hlens.out.mono ?_
          rintro e w2 ⟨hb2, ⟨_, rfl⟩ | ⟨L, R, mo, g, rfl, rfl, _, m1, m2, m3, _, _, rfl, _⟩⟩
          · have hb3 := hb.trans (hb2.mono hb.size)
            clear hlens hQ hQ1 hQ2
            go_wp2_with fail
            go_ret
            exact ⟨rfl, hb3⟩
          · exact (badB_true hQ2.symm rfl m1 m2 m3).elim
        | false =>
          obtain ⟨L, mo, rfl, rfl, m1, m2, m3⟩ := badB_false hQ2.symm
          have hLn : L.length = k := by simpa [ints] using hln
          rw [manyZ_ints] at hQ1
          have hPN : 2 ^ mo ≤ 2 ^ 15 := Nat.pow_le_pow_right (by decide) m2
          have hP : (2 : Int) ^ mo = ((2 ^ mo : Nat) : Int) := by simp
          obtain ⟨P, hPe⟩ : ∃ P, 2 ^ mo = P := ⟨_, rfl⟩
          rw [hPe] at hPN hP
          have hPI : (P : Int) ≤ 32768 := by omega
          have hmoI : (mo : Int) ≤ 15 := by omega
          have hmoI1 : (1 : Int) ≤ (mo : Int) := by omega
          have hand := and15 m2
          replace hLn := Lib.hid hLn
          replace hQ1 := Lib.hid hQ1
          clear hln hQ hQ2
          replace hPe := Lib.hid hPe
          go_wp2_with fail
          refine hlens.out.mono ?_
          rintro e w2 ⟨hb2, ⟨hbad, rfl⟩ | ⟨M, R, mo2, g, e1, e2, h320, _, _, _, hmany, hR, rfl, hNR⟩⟩
          · have hb3 := hb.trans (hb2.mono hb.size)
            have hov := lensBad_many hbad rfl m1 m2 m3 (by rw [hLn.out]; exact h1)
            rw [hPe.out, ← hQ1.out] at hov
            have hovI : (P : Int) < (q : Int) := by omega
            clear hlens hbad
            go_wp2_with fail
            go_ret
            exact ⟨rfl, hb3⟩
          · obtain rfl := ints_inj e1
            obtain rfl : mo = mo2 := by omega
            have hb3 := hb.trans (hb2.mono hb.size)
            have hqP : q ≤ P := by rw [hQ1.out, ← hPe.out]; exact hmany
            have hqPI : ¬ ((P : Int) < (q : Int)) := by omega
            rw [hLn.out] at hNR ⊢
            have hL2 := hL1.below hb2 (Nat.le_refl _)
            have hs2 := hb3.size
            clear hlens hL1 hb hb2 hmany e1 e2 h320
            go_wp2_with fail
            go_loopw [10] (fun v wr => ∃ j : Nat, j ≤ 9 ∧ v = .int .i64 (j : Nat) ∧ Hid (j = 0 ∨ 2 ^ (j - 1) < q) ∧ w2 = wr) (fun v _ => 9 - (intOf v).toNat)
            case atStart => exact ⟨0, Nat.zero_le _, rfl, Lib.hid (.inl rfl), by first | rfl | trivial⟩
            case round =>
              obtain ⟨j, hj, rfl, hjq, hwr⟩ := hrel
              subst hwr
              have hjI : (j : Int) ≤ 9 := by omega
              have hPN2 : 2 ^ j ≤ 2 ^ 9 := Nat.pow_le_pow_right (by decide) hj
              have hP2 : (2 : Int) ^ j = ((2 ^ j : Nat) : Int) := by simp
              have h9 := pow_le9 (m := q) (k := j) (by omega)
              have hnx : 2 ^ j < q → Hid (j + 1 = 0 ∨ 2 ^ (j + 1 - 1) < q) := fun h => Lib.hid (.inr h)
              have hmx : q ≤ 2 ^ j → Hid (q ≤ 2 ^ max j 1 ∧ (max j 1 = 1 ∨ 2 ^ (max j 1 - 1) < q)) := fun h => Lib.hid (by
                by_cases e : j = 0
                · subst e
                  exact ⟨Nat.le_trans h (by decide), .inl rfl⟩
                · rw [Nat.max_eq_left (by omega)]
                  exact ⟨h, .inr (by rcases hjq.out with e2 | e2; exact absurd e2 e; exact e2)⟩)
              obtain ⟨PJ, hPJ⟩ : ∃ PJ, 2 ^ j = PJ := ⟨_, rfl⟩
              rw [hPJ] at hPN2 hP2 h9 hnx hmx
              have hPJI : (PJ : Int) ≤ 512 := by omega
              replace hPJ := Lib.hid hPJ
              by_cases hlt2 : PJ < q
              · have hlt2I : (PJ : Int) < (q : Int) := by omega
                have hj8 := h9 hlt2
                have hn2 := hnx hlt2
                clear h9 hnx hmx
                go_wp2_with fail
                go_roundw
                case rel => exact ⟨j + 1, hj8, by go_num, hn2, by first | rfl | trivial⟩
                case measure => simp [intOf]; omega
              · have hlt2I : ¬ ((PJ : Int) < (q : Int)) := by omega
                have hmax := hmx (by omega)
                have hmr := fun W ts ty => run_max2 (P := Try.prog) W ts ty j 1
                obtain ⟨kk, hkk⟩ : ∃ kk, max j 1 = kk := ⟨_, rfl⟩
                have hk1 : 1 ≤ kk := by rw [← hkk]; exact Nat.le_max_right _ _
                have hmaxI : max (j : Int) 1 = (kk : Int) := by rw [← hkk]; omega
                have hk9 : kk ≤ 9 := by rw [← hkk]; exact Nat.max_le.2 ⟨hj, by decide⟩
                rw [hkk] at hmax
                simp only [hkk] at hmr
                replace hkk := Lib.hid hkk
                clear h9 hnx hmx hjq
                go_wp2_with fail
                clear hmaxI hmr
                go_loopw [11, 12, 13] (fun v11 v12 v13 wr => ∃ i x y : Nat, i ≤ k ∧ v13 = .int .i64 (i : Nat) ∧ v11 = .int .i64 (x : Nat) ∧ v12 = .int .i64 (y : Nat) ∧ Hid (x = costTo L R i ∧ y = kk * sumTo L i) ∧ x ≤ i * 16106127360 ∧ y ≤ i * 16106127360 ∧ ∃ mm, wr = w2.drewN mm) (fun _ _ v13 _ => k - (intOf v13).toNat)
                case atStart => exact ⟨0, 0, 0, Nat.zero_le _, rfl, rfl, rfl, Lib.hid ⟨rfl, rfl⟩, by omega, by omega, 0, rfl⟩
                case round =>
                  obtain ⟨i, x, y, hi, rfl, rfl, rfl, hxy, hx, hy, mm, rfl⟩ := hrel
                  have hbw := below_drewN (Below.refl w2.heap.size w2) mm
                  have hxI : (x : Int) ≤ 5153960755200 := by omega
                  have hyI : (y : Int) ≤ 5153960755200 := by omega
                  by_cases hlt3 : i < k
                  · have hlt3I : (i : Int) < (k : Int) := by omega
                    obtain ⟨b1, o1, rfl, _, g1⟩ := hL2.at_ (Below.refl _ _) hlt3
                    rw [ints_getD] at g1
                    have g2 := hNR.at_ (k := i) (by rw [hR.len, hLn.out]; exact hlt3)
                    have hpos := hR.pos i (by rw [hLn.out]; exact hlt3)
                    have hYm := hR.most i
                    have hXm := getD_le_all m3 i
                    have hcs := costTo_succ L R i
                    have hss := sumTo_succ L i
                    rw [← hxy.out.1] at hcs
                    have hks : kk * sumTo L (i + 1) = y + L.getD i 0 * kk := by rw [hss, Nat.mul_add, ← hxy.out.2, Nat.mul_comm kk (L.getD i 0)]
                    generalize L.getD i 0 = X at *
                    generalize R.getD i 0 = Y at *
                    obtain ⟨T1, hT1⟩ : ∃ T, X * Y = T := ⟨_, rfl⟩
                    obtain ⟨T2, hT2⟩ : ∃ T, X * kk = T := ⟨_, rfl⟩
                    have hT1b : T1 ≤ 1073741824 * 15 := by rw [← hT1]; exact Nat.mul_le_mul hXm (Nat.le_trans hYm m2)
                    have hT2b : T2 ≤ 1073741824 * 15 := by rw [← hT2]; exact Nat.mul_le_mul hXm (by omega)
                    have hT1I : (X : Int) * (Y : Int) = (T1 : Int) := by rw [← hT1]; simp
                    have hT2I : (X : Int) * (kk : Int) = (T2 : Int) := by rw [← hT2]; simp
                    have hT1b2 : (T1 : Int) ≤ 16106127360 := by omega
                    have hT2b2 : (T2 : Int) ≤ 16106127360 := by omega
                    have hXI : (X : Int) ≤ 1073741824 := by omega
                    have hYI : (Y : Int) ≤ 15 := by omega
                    have hkI : (kk : Int) ≤ 9 := by omega
                    rw [hT1] at hcs
                    rw [hT2] at hks
                    have hnx := Lib.hid (And.intro hcs.symm hks.symm)
                    have hYmI : ¬ ((mo : Int) < (Y : Int)) := by omega
                    have hYmB : decide ((mo : Int) < (Y : Int)) = false := decide_eq_false hYmI
                    replace hT1 := Lib.hid hT1
                    replace hT2 := Lib.hid hT2
                    clear hcs hks hss hxy
                    by_cases hX : 0 < X
                    · have hX1 : (0 : Int) < (X : Int) := by omega
                      have hY1 : (0 : Int) < (Y : Int) := by have := hpos.2 hX; omega
                      have hXB : decide ((0 : Int) < (X : Int)) = true := decide_eq_true hX1
                      have hYB : decide ((0 : Int) < (Y : Int)) = true := decide_eq_true hY1
                      have hYn := hpos.2 hX
                      have hXnB : decide (0 < X) = true := decide_eq_true hX
                      have hYnB : decide (0 < Y) = true := decide_eq_true hYn
                      have hne1 : (decide (0 < Y) != decide (0 < X)) = false := by rw [hXnB, hYnB]; rfl
                      have hne2 : (decide ((0 : Int) < (Y : Int)) != decide ((0 : Int) < (X : Int))) = false := by rw [hXB, hYB]; rfl
                      clear hpos
                      go_wp2_with fail
                      go_quiet (fail)
                      go_wp2_with fail
                      go_quiet (fail)
                      go_wp2_with fail
                      go_roundw
                      case rel => exact ⟨i + 1, x + T1, y + T2, by omega, by go_num, by go_num, by go_num, hnx, by omega, by omega, _, rfl⟩
                      case measure => simp [intOf]; omega
                    · have hX1 : ¬ ((0 : Int) < (X : Int)) := by omega
                      have hY1 : ¬ ((0 : Int) < (Y : Int)) := by have := mt hpos.1 hX; omega
                      have hXB : decide ((0 : Int) < (X : Int)) = false := decide_eq_false hX1
                      have hYB : decide ((0 : Int) < (Y : Int)) = false := decide_eq_false hY1
                      have hYn := mt hpos.1 hX
                      have hXnB : decide (0 < X) = false := decide_eq_false hX
                      have hYnB : decide (0 < Y) = false := decide_eq_false hYn
                      have hne1 : (decide (0 < Y) != decide (0 < X)) = false := by rw [hXnB, hYnB]; rfl
                      have hne2 : (decide ((0 : Int) < (Y : Int)) != decide ((0 : Int) < (X : Int))) = false := by rw [hXB, hYB]; rfl
                      clear hpos
                      go_wp2_with fail
                      go_quiet (fail)
                      go_wp2_with fail
                      go_quiet (fail)
                      go_wp2_with fail
                      go_roundw
                      case rel => exact ⟨i + 1, x + T1, y + T2, by omega, by go_num, by go_num, by go_num, hnx, by omega, by omega, _, rfl⟩
                      case measure => simp [intOf]; omega
                  · obtain rfl : i = k := by omega
                    have hZR := (hNR.below hbw).zs
                    have hRl : R.length = i := by rw [hR.len, hLn.out]
                    have hR15 : ∀ x, x ∈ R → x ≤ 15 := le_of_getD fun s => Nat.le_trans (hR.most s) m2
                    have hxy2 : x ≤ y := by
                      obtain ⟨q1, q2⟩ := hmax.out
                      rw [hQ1.out] at q1 q2
                      have h9 := hR.cost kk hk1 q1 q2
                      rw [hLn.out, ← hxy.out.1, ← hxy.out.2] at h9
                      exact h9
                    have hxyI : (x : Int) ≤ (y : Int) := by omega
                    have hxyB : decide ((x : Int) ≤ (y : Int)) = true := decide_eq_true hxyI
                    have hRl' := Lib.hid hRl
                    have hwh := Lib.hid hR.whole
                    clear hL2 hNR hR hmax hRl hxy
                    go_wp2_with fail
                    refine (rnewt_any hZR (by omega)).mono ?_
                    intro e5 w5 hN
                    have hb5 := (hb3.trans (hbw.mono hs2)).trans (hN.1.mono (by show w.heap.size ≤ w2.heap.size; exact hs2))
                    rcases hN.2 with ⟨hbad, rfl⟩ | ⟨M, eM, _, _, ⟨hf, rfl⟩ | ⟨_, b, rfl, _⟩⟩
                    · exfalso
                      rcases hbad with h | ⟨z, hz, h⟩
                      · have h9 := hRl'.out
                        simp [ints] at h; omega
                      · obtain ⟨u, hu, rfl⟩ := List.mem_map.1 hz
                        have := hR15 u hu
                        have e : Int.ofNat u = (u : Int) := rfl
                        omega
                    · exfalso
                      rw [← ints_inj eM, hwh.out] at hf
                      cases hf
                    · clear hN hZR hbw eM
                      go_wp2_with fail
                      go_ret
                      exact ⟨rfl, hb5⟩
end Go.Proofs.Ytdfoimgckahjpaa
