/-
  The walk of the reference's NewTable. No conditions.
-/
import Derived.Test.YtdfoimgckahjpaaHuffNew
import Derived.Deep.RegionLaw
namespace Go.Proofs.Ytdfoimgckahjpaa
open Go.RowKit
/-- the reference's table -/
structure RTb (w : World) (b : Nat) (L : List Nat) : Prop where
  ex : ∃ B la lc ca cc, Blk w b #[.slice la L.length lc, .slice ca L.length cc] 65 ∧ Nums w B (.slice la L.length lc) L ∧ Nums w B (.slice ca L.length cc) (codesOf L)
  whole : Whole L
  le15 : ∀ i, i < L.length → L.getD i 0 ≤ 15
  few : L.length ≤ 320
theorem RTb.below {w w' : World} {b : Nat} {L : List Nat} (h : RTb w b L) (hb : Below w.heap.size w w') : RTb w' b L := by
  obtain ⟨B, la, lc, ca, cc, h1, h2, h3⟩ := h.ex
  exact ⟨⟨B, la, lc, ca, cc, h1.below hb h1.lt, h2.below hb, h3.below hb⟩, h.whole, h.le15, h.few⟩
theorem RTb.grown {w w' : World} {b k : Nat} {L : List Nat} {cs : Array Value} {T : TypeId} (h : RTb w b L) (hk : Blk w k cs T) (h1 : 65 ≠ T) (h2 : 3 ≠ T) (hg : w.grownBy w' (some k)) : RTb w' b L := by
  obtain ⟨B, la, lc, ca, cc, g1, g2, g3⟩ := h.ex
  have hb : ButOf (· = k) w w' := ButOf.of_grown hg (fun i e => by cases e; rfl)
  exact ⟨⟨B, la, lc, ca, cc, g1.but hb (blk_ne g1 hk h1), g2.but hb (fun i hi e => own_blk_ne g2 hk h2 (by rw [hi, e])), g3.but hb (fun i hi e => own_blk_ne g3 hk h2 (by rw [hi, e]))⟩, h.whole, h.le15, h.few⟩
/-- append of all numbers of a slice onto an own row, at one operation of a region that draws its order -/
theorem step_appZ {P : Program} {w : World} {ops : Array Oper} {o : Oper} {a : Act} {K : Act → World → Prop} {Q : Exit → Act → World → Prop} {E : Prop} (hgd : o.guard = none) (s x : Operand) (t : TypeId)
    (ho : o.op = .call { callee := .builtin .append, args := #[s, x], argTypes := #[t, t] })
    (base : Nat) (e : TypeId) (i : TypeInfo) (z : Value) (bytes : Nat) (ht : P.underlying t = some (.slice e)) (hi : P.info? e = some i) (hz : i.zero = some z)
    (hsize : i.size = 1) (hby : i.bytes = bytes) (hzs : z.cells.size = 1)
    (v : Value) (n : Nat) (xs : List Value) (hs : a.eval s = v) (hown : w.ownsRow base e 1 v n xs)
    (ad : Option Addr) (m c : Nat) (l : List Int) (hx : a.eval x = .slice ad m c) (hB : Zs w ad m c l)
    (hmax : n + m ≤ maxLen) (hbytes : (n + m) * bytes ≤ 140737488355328) (hbase : base ≤ w.heap.size)
    (h : ∀ v' w', w'.ownsRow base e 1 v' (n + m) (xs ++ l.map zv) → w.grownBy w' v.ownBlock → Next w v v' → K (a.put o.dst v') w') :
    if Region.wanted o (yielded ops a.tmps) = true then Oper.wp P o a w K Q else E := by
  have hw : Region.wanted o (yielded ops a.tmps) = true := by simp [Region.wanted, hgd]
  rw [if_pos hw]
  have hl := hB.len
  cases ad with
  | none =>
    have hc := hB.nil rfl
    have hm := hB.cap
    obtain rfl : m = 0 := by omega
    subst hc
    obtain rfl : l = [] := List.eq_nil_of_length_eq_zero hl
    have hrun := run_append_owned_none (P := P) (w := w) base t o.type e i 1 ht hi v n xs hown
    unfold Oper.wp
    simp only [execOp, ho, resolve, invoke, builtin, Sem.run_bind, Sem.run_pure, Result.andThen_ok, List.map_toArray, List.map_cons, List.map_nil, hs, hx, hrun]
    exact h _ _ (by simpa using hown) ⟨rfl, rfl, rfl, Nat.le_refl _, fun _ _ _ => rfl⟩ (Next.refl _ _)
  | some ad =>
    obtain ⟨v', w', hr, ho', hg, _, hat⟩ := run_append_own_at (P := P) w base t o.type e i z 1 bytes ht hi hz hsize hby hzs (by decide) v n xs hown ad m c (l.map zv) (by simp [hl])
      (by intro j u hj
          have hj' : j < l.length := by
            have := (List.getElem?_eq_some_iff.1 hj).1; simpa using this
          obtain ⟨b, o, e1, e2⟩ := hB.cell j (by omega)
          cases e1
          have : (⟨b, o, none⟩ : Addr).add j = ⟨b, o + j, none⟩ := by unfold Addr.add; split <;> simp_all
          rw [this, e2]
          simp [List.getElem?_map, List.getElem?_eq_getElem hj', zv] at hj
          simp [List.getD_eq_getElem?_getD, List.getElem?_eq_getElem hj', hj, zv])
      (by intro u hu
          obtain ⟨x, _, rfl⟩ := List.mem_map.1 hu
          rfl) hmax hbytes hbase
    unfold Oper.wp execOp
    simp only [ho, resolve, invoke, builtin, Sem.run_bind, Sem.run_pure, Result.andThen_ok, List.map_toArray, List.map_cons, List.map_nil, hs, hx, hr]
    exact h v' w' ho' hg (Next.of_at hat)
/-- a new row of no number, as an own row -/
theorem own_empty {W : World} {g B : Nat} (h : Blk W g #[] 3) (hB : B ≤ g) : W.ownsRow B 3 1 (.slice (some ⟨g, 0, none⟩) 0 0) 0 [] :=
  own_of_blk (n := 0) (c := 0) (cs := []) h hB (Nat.le_refl _) (by decide) rfl
theorem bel_a (w : World) (o : Obj) : Below w.heap.size w (w.alloc o).drew := (below_alloc (Below.refl _ _) _ (Nat.le_refl _)).drew
theorem bel_b (w : World) (o o' : Obj) : Below w.heap.size w ((w.alloc o).alloc o').drew := (below_alloc (below_alloc (Below.refl _ _) _ (Nat.le_refl _)) _ (Nat.le_refl _)).drew
theorem emp_a (w : World) : Blk (w.alloc (.cells #[] 3)).drew w.heap.size #[] 3 := (Blk.new w #[] 3).below (Below.refl _ _).drew (Blk.new w #[] 3).lt
theorem emp_b (w : World) (o : Obj) : Blk ((w.alloc (.cells #[] 3)).alloc o).drew w.heap.size #[] 3 := (Blk.new w #[] 3).below (bel_a _ o) (Blk.new w #[] 3).lt
theorem emp_c (w : World) (o : Obj) : Blk ((w.alloc o).alloc (.cells #[] 3)).drew (w.heap.size + 1) #[] 3 := by
  have h := Blk.new (w.alloc o) #[] 3
  rw [alloc_size] at h
  exact h.below (Below.refl _ _).drew h.lt
theorem fin_a {wc w4 : World} {k : Nat} {lv : Value} {xs : List Value} (hb : Below wc.heap.size wc w4) (ho : w4.ownsRow wc.heap.size 3 1 lv k xs) (T : Array Value) :
    Blk ((w4.alloc (.cells (mkZ k) 3)).alloc (.cells T 65)) (w4.heap.size + 1) T 65 ∧
    Blk ((w4.alloc (.cells (mkZ k) 3)).alloc (.cells T 65)) w4.heap.size (mkZ k) 3 ∧
    ((w4.alloc (.cells (mkZ k) 3)).alloc (.cells T 65)).ownsRow wc.heap.size 3 1 lv k xs ∧ lv.ownBlock ≠ some w4.heap.size ∧
    Below wc.heap.size wc ((w4.alloc (.cells (mkZ k) 3)).alloc (.cells T 65)) := by
  have s2 := alloc_size w4 (.cells (mkZ k) 3)
  have n1 := Blk.new (w4.alloc (.cells (mkZ k) 3)) T 65
  rw [s2] at n1
  refine ⟨n1, (Blk.new w4 (mkZ k) 3).below (below_alloc (Below.refl (w4.alloc (.cells (mkZ k) 3)).heap.size _) _ (Nat.le_refl _)) (Blk.new w4 _ _).lt, own_below ho (below_alloc (below_alloc (Below.refl w4.heap.size w4) _ (Nat.le_refl _)) _ (Nat.le_refl _)), fun e => ?_, below_alloc (below_alloc hb _ (Nat.le_refl _)) _ (Nat.le_refl _)⟩
  have := (ho.lt _ e).2
  omega
theorem fin_b {wc w4 : World} {k cb : Nat} {lv : Value} {xs : List Value} (hb : Below wc.heap.size wc w4) (ho : w4.ownsRow wc.heap.size 3 1 lv k xs) (hc : Blk w4 cb (mkZ k) 3) (T : Array Value) :
    Blk (w4.alloc (.cells T 65)) w4.heap.size T 65 ∧ Blk (w4.alloc (.cells T 65)) cb (mkZ k) 3 ∧
    (w4.alloc (.cells T 65)).ownsRow wc.heap.size 3 1 lv k xs ∧ Below wc.heap.size wc (w4.alloc (.cells T 65)) :=
  ⟨Blk.new w4 _ _, hc.below (below_alloc (Below.refl w4.heap.size w4) _ (Nat.le_refl _)) hc.lt, own_below ho (below_alloc (Below.refl w4.heap.size w4) _ (Nat.le_refl _)), below_alloc hb _ (Nat.le_refl _)⟩
theorem next_ne {W : World} {g cb : Nat} {v : Value} (hn : Next W (.slice (some ⟨g, 0, none⟩) 0 0) v) (h1 : g ≠ cb) (h2 : cb < W.heap.size) : v.ownBlock ≠ some cb := fun e => by
  rcases hn cb e with h | h
  · exact h1 (by simpa [Value.ownBlock] using h)
  · omega
/-- what the reference's NewTable answers -/
def RNewed (w : World) (l : List Int) (e : Ending) (w' : World) : Prop :=
  Below w.heap.size w w' ∧ (((320 < l.length ∨ ∃ x, x ∈ l ∧ (x < 0 ∨ 15 < x)) ∧ e = .returned (.tuple #[.pointer none, .int .i64 1])) ∨
    ∃ L : List Nat, l = ints L ∧ L.length ≤ 320 ∧ (∀ x, x ∈ L → x ≤ 15) ∧
      (wholeB L = false ∧ e = .returned (.tuple #[.pointer none, .int .i64 10]) ∨ wholeB L = true ∧ ∃ b, e = .returned (.tuple #[.pointer (some ⟨b, 0, none⟩), .int .i64 0]) ∧ w.heap.size ≤ b ∧ RTb w' b L))
set_option maxRecDepth 100000 in
set_option maxHeartbeats 8000000 in
theorem rnewt_any {w : World} {a : Option Addr} {n c : Nat} {l : List Int} (h : Zs w a n c l) (hmx : n ≤ 9223372036854775807) :
    Calls Try.prog 43 #[.slice a n c] w (RNewed w l) := by
  have hl := h.len
  by_cases h320 : 320 < n
  · go_enter Try.func43, Try.ntmps43
    go_wp2_with fail
    go_ret2
    exact ⟨Below.refl _ _, .inl ⟨.inl (by omega), rfl⟩⟩
  go_enter Try.func43, Try.ntmps43
  go_wp2_with fail
  go_loopw [4, 5, 6, 7] (fun s m g i W => ∃ (k : Nat) (M : List Nat) (q : Nat), k ≤ n ∧ i = .int .i64 (k : Nat) ∧ M.length = k ∧ l.take k = ints M ∧ (∀ x, x ∈ M → x ≤ 15) ∧ s = .int .i64 (kraft M : Nat) ∧ m = .int .i64 (manyOf M : Nat) ∧ g = .int .i64 (q : Nat) ∧ St M q ∧ W = w) (fun _ _ _ i _ => n - (intOf i).toNat)
  case atStart => exact ⟨0, [], 0, by omega, rfl, rfl, rfl, by simp, rfl, rfl, rfl, St.nil, rfl⟩
  case round =>
    obtain ⟨k, M, q, hk, rfl, hM, hT, h15, rfl, rfl, rfl, hS, rfl⟩ := hrel
    by_cases hlt : k < n
    · obtain ⟨b1, o1, rfl, hb1, g⟩ := h.at_ (Below.refl _ _) hlt
      have hmem := getD_mem (l := l) (k := k) (by omega)
      have htk := take_snoc_int (l := l) (k := k) (by omega)
      rw [hT] at htk
      generalize l.getD k 0 = x at *
      by_cases hx0 : x < 0
      · go_wp2_with fail
        go_ret2
        exact ⟨Below.refl _ _, .inl ⟨.inr ⟨x, hmem, .inl hx0⟩, rfl⟩⟩
      · by_cases hx1 : 15 < x
        · go_wp2_with fail
          go_ret2
          exact ⟨Below.refl _ _, .inl ⟨.inr ⟨x, hmem, .inr hx1⟩, rfl⟩⟩
        · obtain ⟨X, rfl⟩ := Int.eq_ofNat_of_zero_le (by omega : 0 ≤ x)
          rw [← ints_snoc] at htk
          have h15' : ∀ y, y ∈ M ++ [X] → y ≤ 15 := fun y hy => by
            rcases List.mem_append.1 hy with e | e
            · exact h15 y e
            · rw [List.mem_singleton.1 e]; omega
          have hkr := kraft_snoc X M
          have hmn := manyOf_snoc X M
          have hb1k := kraft_le (2 ^ 14) rfl M
          have hb2k := manyOf_le M
          replace htk := Lib.hid htk
          replace h15' := Lib.hid h15'
          clear hmem hT h15
          by_cases hz : X = 0
          · subst hz
            have hS' := Lib.hid hS.zero
            simp only [if_pos] at hkr hmn
            replace hkr := Lib.hid hkr
            replace hmn := Lib.hid hmn
            clear hS
            go_wp2_with fail
            go_roundw
            case rel => exact ⟨k + 1, M ++ [0], q, by omega, by go_num, by simp [hM], htk.out, h15'.out, by rw [hkr.out]; rfl, by rw [hmn.out]; rfl, rfl, hS'.out, trivial⟩
            case measure => simp [intOf]; omega
          · have hS' := Lib.hid (hS.pos (x := X) (by omega))
            rw [if_neg hz] at hkr hmn
            have hp : 2 ^ (15 - X) ≤ 2 ^ 14 := Nat.pow_le_pow_right (by decide) (by omega)
            replace hkr := Lib.hid hkr
            replace hmn := Lib.hid hmn
            clear hS
            generalize kraft M = K at *
            generalize manyOf M = N at *
            have hP : (2 : Int) ^ (15 - X) = ((2 ^ (15 - X) : Nat) : Int) := by simp
            generalize hPP : 2 ^ (15 - X) = P at hP hp
            replace hP := Lib.hid hP
            replace hPP := Lib.hid hPP
            have hKb : K ≤ 320 * 2 ^ 14 := Nat.le_trans hb1k (Nat.mul_le_mul_right _ (by omega))
            simp only [Nat.reducePow, Nat.reduceMul] at hKb hp
            clear hb1k
            go_wp2_with fail
            go_roundw
            case rel =>
              refine ⟨k + 1, M ++ [X], X, by omega, by go_num, by simp [hM], htk.out, h15'.out, ?_, ?_, rfl, hS'.out, trivial⟩
              · rw [hkr.out, hP.out, hPP.out, wrap64_in (P : Int) (by omega), wrap64_in _ (by omega)]; simp
              · rw [hmn.out]; simp
            case measure => simp [intOf]; omega
    · obtain rfl : k = n := by omega
      rw [List.take_of_length_le (by omega)] at hT
      subst hT
      have hk2 : M.length ≤ 320 := by omega
      have hwb := hS.whole h15
      have z0 := kraft_zero (L := M)
      have z1 := kraft_one (L := M)
      have hb1k := kraft_le (2 ^ 14) rfl M
      have hb2k := manyOf_le M
      have hKb : kraft M ≤ 320 * 2 ^ 14 := Nat.le_trans hb1k (Nat.mul_le_mul_right _ (by omega))
      simp only [Nat.reducePow, Nat.reduceMul] at hKb
      clear hS hb1k
      cases hw : wholeB M with
      | false =>
        rw [hw] at hwb
        simp only [Bool.false_eq, Bool.or_eq_false_iff, Bool.and_eq_false_iff, decide_eq_false_iff_not] at hwb
        obtain ⟨w1, w2, w3⟩ := hwb
        have hfin : RNewed wr (ints M) (.returned (.tuple #[.pointer none, .int .i64 10])) wr := ⟨Below.refl _ _, .inr ⟨M, rfl, hk2, h15, .inl ⟨hw, rfl⟩⟩⟩
        replace hfin := Lib.hid hfin
        clear z0 z1 hw
        generalize kraft M = K at *
        generalize manyOf M = N at *
        by_cases k1 : 32768 < K
        · go_wp2_with fail
          go_ret2
          exact hfin.out
        · have e1 : ((K : Int) < 32768) := by omega
          have e0 : ¬ (32768 < (K : Int)) := by omega
          have e2 : ((N : Int) == 0) = false := by rw [beq_eq_false_iff_ne]; omega
          clear w1 k1
          rcases w3 with w3 | w3
          · have e3 : ((N : Int) == 1) = false := by rw [beq_eq_false_iff_ne]; omega
            go_wp2_with fail
            go_ret2
            exact hfin.out
          · have e3 : ((q : Int) == 1) = false := by rw [beq_eq_false_iff_ne]; omega
            by_cases w4 : N = 1
            · subst w4
              go_wp2_with fail
              go_ret2
              exact hfin.out
            · have e4 : ((N : Int) == 1) = false := by rw [beq_eq_false_iff_ne]; omega
              go_wp2_with fail
              go_ret2
              exact hfin.out
      | true =>
        rw [hw] at hwb
        have hor : kraft M = 32768 ∨ manyOf M = 0 ∨ manyOf M = 1 ∧ q = 1 := by simpa using hwb.symm
        clear hwb
        generalize hKK : kraft M = K at *
        generalize hNN : manyOf M = N at *
        have e0 : ¬ (32768 < (K : Int)) := by omega
        clear hKK hNN z0 z1
        obtain ⟨i0, hi, hz0, hz1, hz2⟩ := info_parts info_int
        go_upto_region 15 with fail
        go_cut [71] (fun t W => t = .bool false ∧ W = wr)
        case first =>
          clear hi hz0 hz1 hz2
          by_cases k1 : K = 32768
          · subst k1
            go_wp2_with fail
            go_meet
            exact ⟨rfl, rfl⟩
          · have e1 : ((K : Int) < 32768) := by omega
            by_cases k2 : N = 0
            · subst k2
              clear k1 hor
              go_wp2_with fail
              go_meet
              exact ⟨rfl, rfl⟩
            · have k3 : N = 1 ∧ q = 1 := by omega
              obtain ⟨rfl, rfl⟩ := k3
              clear k1 k2 hor
              go_wp2_with fail
              go_meet
              exact ⟨rfl, rfl⟩
        case rest =>
          obtain ⟨rfl, rfl⟩ := hcut
          clear hor e0
          obtain ⟨w0, hw0⟩ : ∃ w0, w0 = wc := ⟨_, rfl⟩
          subst hw0
          have hmk := fun W => run_mkZ (P := Try.prog) (t := 35) (e := 3) Try.underlying35 hi hz0 hz1 hz2 k (by omega) W
          have hi' := Lib.hid hi
          clear hi
          have hZ := fun W hW => h.below (w' := W) (B := w0.heap.size) hW (Nat.le_refl _)
          go_wp2_with fail
          go_cut [8] (fun t W => ∃ b cb B lv, t = .pointer (some ⟨b, 0, none⟩) ∧ Blk W b #[lv, .slice (some ⟨cb, 0, none⟩) k k] 65 ∧ Blk W cb ((List.replicate k 0).map nv).toArray 3 ∧ W.ownsRow B 3 1 lv k ((ints M).map zv) ∧ lv.ownBlock ≠ some cb ∧ w0.heap.size ≤ B ∧ w0.heap.size ≤ b ∧ w0.heap.size ≤ cb ∧ Below w0.heap.size w0 W)
          case first =>
            go_region_law (first | (refine step_appZ rfl _ _ 35 (by rfl) w0.heap.size 3 i0 _ 8 Try.underlying35 hi'.out hz0 hz1 hz2 rfl (.slice (some ⟨w0.heap.size, 0, none⟩) 0 0) 0 [] rfl (own_empty (emp_a _) (by omega)) a k c (ints M) rfl (hZ _ (bel_a _ _)) (by unfold maxLen; omega) (by omega) (bel_a _ _).size ?_; intro v4 w4 ho4 hg4 hn4; obtain ⟨a4, c4, rfl⟩ := own_form1 ho4) | (refine step_appZ rfl _ _ 35 (by rfl) w0.heap.size 3 i0 _ 8 Try.underlying35 hi'.out hz0 hz1 hz2 rfl (.slice (some ⟨w0.heap.size, 0, none⟩) 0 0) 0 [] rfl (own_empty (emp_b _ _) (by omega)) a k c (ints M) rfl (hZ _ (bel_b _ _ _)) (by unfold maxLen; omega) (by omega) (bel_b _ _ _).size ?_; intro v4 w4 ho4 hg4 hn4; obtain ⟨a4, c4, rfl⟩ := own_form1 ho4) | (refine step_appZ rfl _ _ 35 (by rfl) w0.heap.size 3 i0 _ 8 Try.underlying35 hi'.out hz0 hz1 hz2 rfl (.slice (some ⟨w0.heap.size + 1, 0, none⟩) 0 0) 0 [] rfl (own_empty (emp_c _ _) (by omega)) a k c (ints M) rfl (hZ _ (bel_b _ _ _)) (by unfold maxLen; omega) (by omega) (bel_b _ _ _).size ?_; intro v4 w4 ho4 hg4 hn4; obtain ⟨a4, c4, rfl⟩ := own_form1 ho4))
            · simp only [Nat.zero_add, List.nil_append] at ho4 hn4
              have ho5 := ho4
              have hb4 := below_grown (bel_a w0 _) (own_empty (emp_a w0) (Nat.le_refl _)) hg4 (bel_a w0 (.cells #[] 3)).size
              obtain ⟨f1, f2, f3, f4, f5⟩ := fin_a hb4 ho5 #[.slice a4 k c4, .slice (some ⟨w4.heap.size, 0, none⟩) k k]
              have f6 := hb4.size
              clear hmk hg4 hn4 ho4 ho5 hb4 hZ
              go_wp2_with fail
              go_meet
              exact ⟨_, _, _, _, rfl, f1, by rw [← mkZ_map]; exact f2, f3, f4, Nat.le_refl _, by omega, by omega, f5⟩
            · simp only [Nat.zero_add, List.nil_append] at ho4 hn4
              have ho5 := ho4
              have hb4 := below_grown (bel_b w0 _ _) (own_empty (emp_b w0 _) (Nat.le_refl _)) hg4 (bel_b w0 (.cells #[] 3) (.cells (mkZ k) 3)).size
              have s1 := alloc_size w0 (.cells #[] 3)
              have s2 : ((w0.alloc (.cells #[] 3)).alloc (.cells (mkZ k) 3)).drew.heap.size = (w0.alloc (.cells #[] 3)).heap.size + 1 := alloc_size (w0.alloc (.cells #[] 3)) (.cells (mkZ k) 3)
              have n1 := Blk.new (w0.alloc (.cells #[] 3)) (mkZ k) 3
              rw [s1] at n1
              have n2 := (n1.below (Below.refl _ _).drew n1.lt).grown hg4 (by simp [Value.ownBlock])
              have hne := next_ne hn4 (cb := w0.heap.size + 1) (by omega) (by omega)
              obtain ⟨f1, f2, f3, f5⟩ := fin_b hb4 ho5 n2 #[.slice a4 k c4, .slice (some ⟨w0.heap.size + 1, 0, none⟩) k k]
              have f6 := hb4.size
              clear hmk hg4 hn4 ho4 ho5 hb4 hZ s1 s2 n1 n2
              go_wp2_with fail
              go_meet
              exact ⟨_, _, _, _, rfl, f1, by rw [← mkZ_map]; exact f2, f3, hne, Nat.le_refl _, by omega, by omega, f5⟩
            · simp only [Nat.zero_add, List.nil_append] at ho4 hn4
              have ho5 := ho4
              have hb4 := below_grown (bel_b w0 _ _) (own_empty (B := w0.heap.size) (emp_c w0 _) (by omega)) hg4 (bel_b w0 (.cells (mkZ k) 3) (.cells #[] 3)).size
              have s1 := alloc_size w0 (.cells (mkZ k) 3)
              have s2 : ((w0.alloc (.cells (mkZ k) 3)).alloc (.cells #[] 3)).drew.heap.size = (w0.alloc (.cells (mkZ k) 3)).heap.size + 1 := alloc_size (w0.alloc (.cells (mkZ k) 3)) (.cells #[] 3)
              have n1 := (Blk.new w0 (mkZ k) 3).below (bel_a (w0.alloc (.cells (mkZ k) 3)) (.cells #[] 3)) (Blk.new w0 _ _).lt
              have n2 := n1.grown hg4 (by simp [Value.ownBlock])
              have hne := next_ne hn4 (cb := w0.heap.size) (by omega) (by omega)
              obtain ⟨f1, f2, f3, f5⟩ := fin_b hb4 ho5 n2 #[.slice a4 k c4, .slice (some ⟨w0.heap.size, 0, none⟩) k k]
              have f6 := hb4.size
              clear hmk hg4 hn4 ho4 ho5 hb4 hZ s1 s2 n1 n2
              go_wp2_with fail
              go_meet
              exact ⟨_, _, _, _, rfl, f1, by rw [← mkZ_map]; exact f2, f3, hne, Nat.le_refl _, by omega, by omega, f5⟩
          case rest =>
            obtain ⟨b, cb, B, lv, rfl, hB, hC, hL, hne, g1, g2, g3, hb⟩ := hcut
            clear hmk hi' hz0 hz1 hz2 hZ
            have hbc := blk_ne hB hC (by decide)
            have hbl := own_blk_ne hL hB (by decide)
            have hW := (wholeB_iff M).1 hw
            have hfl := Lib.hid (fun n (hn : n ≤ 15) => fst_le hW hn)
            have hr0 : List.replicate k 0 = codesAt M 1 0 := by rw [codesAt_start, hM]
            rw [hr0] at hC
            clear hr0 hl hmx hb2k hKb
            go_wp2_with fail
            go_loopw [9, 10] (fun x i W => ∃ (n y : Nat), n ≤ 15 ∧ i = .int .i64 ((n + 1 : Nat) : Int) ∧ x = .int .i64 (y : Nat) ∧ y = fst M n + cnt M n ∧ Blk W b #[lv, .slice (some ⟨cb, 0, none⟩) k k] 65 ∧ Blk W cb ((codesAt M (n + 1) 0).map nv).toArray 3 ∧ W.ownsRow B 3 1 lv k ((ints M).map zv) ∧ Below w0.heap.size w0 W) (fun _ i _ => 17 - (intOf i).toNat)
            case atStart => exact ⟨0, 0, by omega, rfl, rfl, rfl, hB, hC, hL, hb⟩
            case round =>
              clear hB hC hL hb
              obtain ⟨n, y, hn, rfl, rfl, hy, hB, hC, hL, hb⟩ := hrel
              by_cases hlt2 : n + 1 ≤ 15
              · have hx2 := hfl.out n (by omega)
                have hx3 := Nat.pow_le_pow_right (show 0 < 2 by decide) (show n ≤ 15 by omega)
                have hyb : y ≤ 32768 := by omega
                have hx4 : y * 2 = fst M (n + 1) + (M.take 0).count (n + 1) := by rw [fst, hy]; simp; omega
                have hltI : (n : Int) + 1 ≤ 15 := by omega
                have hy2 : (y : Int) * 2 = ((y * 2 : Nat) : Int) := by omega
                have hyb2 : y * 2 ≤ 65536 := by omega
                clear hx2 hx3 hy
                generalize y * 2 = y2 at *
                replace hx4 := Lib.hid hx4
                go_wp2_with fail
                go_loopw [9, 11] (fun x i W => ∃ (j z : Nat), j ≤ k ∧ i = .int .i64 (j : Nat) ∧ x = .int .i64 (z : Nat) ∧ z = fst M (n + 1) + (M.take j).count (n + 1) ∧ Blk W b #[lv, .slice (some ⟨cb, 0, none⟩) k k] 65 ∧ Blk W cb ((codesAt M (n + 1) j).map nv).toArray 3 ∧ W.ownsRow B 3 1 lv k ((ints M).map zv) ∧ Below w0.heap.size w0 W) (fun _ i _ => k - (intOf i).toNat)
                case atStart => exact ⟨0, y2, by omega, rfl, rfl, hx4.out, hB, hC, hL, hb⟩
                case round =>
                  clear hB hC hL hb hx4
                  obtain ⟨j, z, hj, rfl, rfl, hz, hB, hC, hL, hb⟩ := hrel
                  by_cases hlt3 : j < k
                  · obtain ⟨b1, o1, rfl, hb1, g⟩ := h.at_ hb hlt3
                    rw [ints_getD] at g
                    have hjM : j < M.length := by omega
                    have hxb2 : (M.take j).count (n + 1) ≤ cnt M (n + 1) := by rw [cnt_pos (by omega)]; exact List.Sublist.count_le _ (List.take_sublist _ _)
                    have hx2 := hfl.out (n + 1) hlt2
                    have hx3 := Nat.pow_le_pow_right (show 0 < 2 by decide) hlt2
                    have hzb : z ≤ 32768 := by omega
                    by_cases hm : M.getD j 0 = n + 1
                    · have hcs := codesAt_hit hjM (show 0 < n + 1 by omega) hm
                      rw [← hz] at hcs
                      have hct := count_take_hit hjM hm
                      have hz2 : z + 1 = fst M (n + 1) + (M.take (j + 1)).count (n + 1) := by rw [hct]; omega
                      rw [hm] at g
                      have c1 := hB.cell 1
                      simp only [List.getElem?_toArray, List.getElem?_cons_zero, List.getElem?_cons_succ] at c1
                      have c2 := hC.nget (j := j) (by rw [codesAt_length]; exact hjM)
                      unfold nv at c2
                      have f2 := hC.free j none
                      have hC2 := hC.nset j z
                      have hbt : ButOf (· = cb) wr (wr.setCell ⟨cb, j, none⟩ (.int .i64 (z : Int))) := (ButOf.refl _ _).set _ (.inl rfl)
                      have hB2 := hB.but hbt hbc
                      have hL2 := own_but hL hbt (fun i hi e => hne (by rw [hi, e]))
                      have hb2 := hb.setCell (p := ⟨cb, j, none⟩) g3 (.int .i64 (z : Int))
                      rw [← hcs] at hC2
                      replace hz2 := Lib.hid hz2
                      clear hcs hct hm hB hC hL hb hbt hxb2 hx2 hx3 hz
                      generalize (codesAt M (n + 1) j).getD j 0 = Y at *
                      go_wp2_with fail
                      go_roundw
                      case rel => exact ⟨j + 1, z + 1, by omega, by go_num, by go_num, hz2.out, hB2, hC2, hL2, hb2⟩
                      case measure => simp [intOf]; omega
                    · have hcs := codesAt_miss (L := M) (n := n + 1) (i := j) hm
                      rw [← hcs] at hC
                      rw [← count_take_miss hjM hm] at hz
                      replace hz := Lib.hid hz
                      have hmI : ((M.getD j 0 : Nat) : Int) ≠ ((n + 1 : Nat) : Int) := by omega
                      clear hcs hm hxb2 hx2 hx3
                      generalize M.getD j 0 = X at *
                      have hmB : ((X : Int) == ((n + 1 : Nat) : Int)) = false := by rw [beq_eq_false_iff_ne]; exact hmI
                      go_wp2_with fail
                      go_roundw
                      case rel => exact ⟨j + 1, z, by omega, by go_num, rfl, hz.out, hB, hC, hL, hb⟩
                      case measure => simp [intOf]; omega
                  · obtain rfl : j = k := by omega
                    have hlv := codesAt_level M (n + 1)
                    rw [hM] at hlv
                    rw [hlv] at hC
                    rw [List.take_of_length_le (by omega), ← cnt_pos (L := M) (show 0 < n + 1 by omega)] at hz
                    replace hz := Lib.hid hz
                    clear hlv
                    go_wp2_with fail
                    go_roundw
                    case rel => exact ⟨n + 1, z, by omega, by go_num, rfl, hz.out, hB, hC, hL, hb⟩
                    case measure => simp [intOf]; omega
              · obtain rfl : n = 15 := by omega
                clear hfl
                go_wp2_with fail
                go_ret2
                have hL' : Nums wr B lv M := by unfold Nums; rw [hM, ← nv_zv]; exact hL
                obtain ⟨la, lc, rfl⟩ := hL'.form
                have h15' := getD_le_of_all h15
                rw [codesAt_end h15'] at hC
                refine ⟨hb, .inr ⟨M, rfl, hk2, h15, .inr ⟨hw, b, rfl, g2, ⟨⟨w0.heap.size, la, lc, some ⟨cb, 0, none⟩, k, ?_, hL'.mono g1, ?_⟩, hW, h15', hk2⟩⟩⟩⟩
                · rw [hM]; rw [hM] at hB; exact hB
                · rw [hM]; exact Nums.of_blk hC g3 ((codesOf_length M).trans hM) (by omega)
end Go.Proofs.Ytdfoimgckahjpaa
