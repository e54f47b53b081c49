/-
  The walk of FsmTwo.
-/
import Derived.Test.YtjcigaonadkhkaaFsmSt
import Derived.Deep.RegionLaw
import Derived.Deep.DeepCutAuto
namespace Go.Proofs.Ytjcigaonadkhkaa
open Go.RowKit
theorem run_mkQ (W : World) : (Instr.makeSlice 34 (.int .i64 2) (.int .i64 2)).run Try.prog W =
    .ok (.slice (some ⟨W.heap.size, 0, none⟩) 2 2) (W.alloc (.cells #[.slice none 0 0, .slice none 0 0] 23)) := by
  obtain ⟨i0, hi, hz0, hz1, hz2⟩ := info_parts (show (Try.prog.info? 23).map (fun i => (i.zero, i.size, i.bytes)) = some (some (.slice none 0 0), 1, 24) from rfl)
  have h := run_make (P := Try.prog) (w := W) 34 23 i0 (.slice none 0 0) Try.underlying34 hi hz0 .i64 .i64 2 2 (by decide) (by decide) (by rw [hz2]; decide) (by decide)
  rw [hz1, show (Int.toNat 2 * 1) = 2 from rfl, show (Value.slice none 0 0).cells = #[.slice none 0 0] from rfl, madeCells_one] at h
  exact h
theorem Nums.own {w : World} {B : Nat} {v : Value} {l : List Nat} (h : Nums w B v l) : w.ownsRow B 3 1 v (l.map iv).length (l.map iv) := by rw [List.length_map]; exact h
theorem step_go {P : Program} {w : World} {ops : Array Oper} {o : Oper} {a : Act} {K : Act → World → Prop} {Q : Exit → Act → World → Prop} {E : Prop} (hgd : o.guard = none) {f : FuncId} {args : Array Value} {R : Ending → World → Prop}
    (hc : Calls P f args w R) (hrun : (execOp a.eval o).run P w = .ok (.enter f args) w) (h : ∀ e w', R e w' → ∃ v, e = .returned v ∧ K (a.put o.dst v) w') :
    if Region.wanted o (yielded ops a.tmps) = true then Oper.wp P o a w K Q else E := by
  have hw : Region.wanted o (yielded ops a.tmps) = true := by simp [Region.wanted, hgd]
  rw [if_pos hw]
  unfold Oper.wp
  rw [hrun, Oper.upon_enter]
  refine hc.mono fun e w' hr => ?_
  obtain ⟨v, rfl, hk⟩ := h e w' hr
  exact hk
theorem St.drew {w0 w : World} {bA bB bm bq : Nat} {v0 v1 : Value} {m0 m1 : M} {l0 l1 : List Nat} (h : St w0 w bA bB bm bq v0 v1 m0 m1 l0 l1) : St w0 w.drew bA bB bm bq v0 v1 m0 m1 l0 l1 := h.below (Below.refl w.heap.size w).drew
theorem next_tail (w : World) (a : Option Addr) (n m c c' : Nat) (p : Prop) [Decidable p] : Next w (.slice a n c) (.slice (if p then a else a.map (·.add 1)) m c') := by
  intro k hk
  left
  cases a with
  | none => by_cases hp : p <;> simp [Value.ownBlock, hp] at hk
  | some ad =>
    by_cases hp : p
    · simpa [Value.ownBlock, hp] using hk
    · simp only [Value.ownBlock, hp, if_false, Option.map_some, Option.some.injEq] at hk ⊢
      rw [← hk]
      unfold Addr.add
      split <;> rfl
theorem St.pop0 {w0 w : World} {bA bB bm bq : Nat} {v1 : Value} {m0 m1 : M} {l0 l1 : List Nat} {a : Option Addr} {n c x : Nat} (h : St w0 w bA bB bm bq (.slice a n c) v1 m0 m1 (x :: l0) l1) :
    St w0 (w.setCell ⟨bq, 0, none⟩ (.slice (if c = 1 then a else a.map (·.add 1)) (n - 1) (c - 1))) bA bB bm bq (.slice (if c = 1 then a else a.map (·.add 1)) (n - 1) (c - 1)) v1 m0 m1 l0 l1 :=
  (h.put0 (l := l0) (Que.tail (by simpa using h.q0)) (grown_refl _ _) (next_tail _ _ _ _ _ _ _)).2.2
theorem St.pop1 {w0 w : World} {bA bB bm bq : Nat} {v0 : Value} {m0 m1 : M} {l0 l1 : List Nat} {a : Option Addr} {n c x : Nat} (h : St w0 w bA bB bm bq v0 (.slice a n c) m0 m1 l0 (x :: l1)) :
    St w0 (w.setCell ⟨bq, 1, none⟩ (.slice (if c = 1 then a else a.map (·.add 1)) (n - 1) (c - 1))) bA bB bm bq v0 (.slice (if c = 1 then a else a.map (·.add 1)) (n - 1) (c - 1)) m0 m1 l0 l1 :=
  (h.put1 (l := l1) (Que.tail (by simpa using h.q1)) (grown_refl _ _) (next_tail _ _ _ _ _ _ _)).2.2
/-- the first that is to be heard -/
theorem Que.head {w : World} {B E : Nat} {a : Option Addr} {n c x : Nat} {l : List Nat} (h : Que w B E (.slice a n c) ((x :: l).map iv)) (hn : n = l.length + 1) : ∃ g off, a = some ⟨g, off, none⟩ ∧ w.cell? ⟨g, off, none⟩ = some (.int .i64 x) := by
  subst hn
  have h' : Que w B E (.slice a ((x :: l).map iv).length c) ((x :: l).map iv) := by simpa using h
  rcases h'.cell with ⟨h0, _⟩ | ⟨g, off, rfl, _, _, hc⟩
  · cases h0
  · exact ⟨g, off, rfl, hc 0 (by simp)⟩
def mO : M := ⟨100, 100, 1, 0, 0⟩
def mUp : M := ⟨100, 100, 6, 99, 100⟩
def at0 (j : Nat) : M := if 0 < j then mUp else newM 100 100
def at1 (j : Nat) : M := if 1 < j then mUp else newM 100 100
def need0 (j : Nat) : List Nat := if 0 < j then [6] else []
def need1 (j : Nat) : List Nat := if 1 < j then [6] else []
theorem okS : Ok (newM 100 100) := Ok.new (by decide) (by decide) (by decide) (by decide)
theorem okO : Ok mO := okS.do 2
theorem okUp : Ok mUp := okO.do 0
set_option maxRecDepth 100000 in
set_option maxHeartbeats 4000000 in
theorem two_in {w : World} {a : Option Addr} {n c : Nat} {l : List UInt8} (hB : Bts w a n c l) (hn : n ≤ 200) :
    Calls Try.prog 4 #[.slice a n c] w fun e w' => e = .returned (.bool true) ∧ Below w.heap.size w w' := by
  obtain ⟨i0, hi, hz0, hz1, hz2⟩ := info_parts (show (Try.prog.info? 3).map (fun i => (i.zero, i.size, i.bytes)) = some (some (.int .i64 0), 1, 8) from rfl)
  have hi' := Lib.hid hi
  clear hi
  go_enter Try.func4, Try.ntmps4
  go_wp2_with (go_at_call 13; refine (awake_any _).mono ?_; rintro e w0 ⟨rfl, hb0⟩)
  go_wp2_with fail
  refine (New_yes (n := 100) (t := 100) (by decide) (by decide) (by decide) (by decide) _).mono ?_
  rintro e w1 ⟨rfl, hM1, hb1⟩
  go_wp2_with fail
  refine (New_yes (n := 100) (t := 100) (by decide) (by decide) (by decide) (by decide) _).mono ?_
  rintro e w2 ⟨rfl, hD1, hb2⟩
  have hB0 := hb0.size
  have hbd := hM1.lt
  have hdl := hD1.lt
  have hM1 := hM1.below hb2 hM1.lt
  have hbw : Below w.heap.size w w2 := (hb0.trans (hb1.mono hB0)).trans (hb2.mono (by omega))
  generalize w1.heap.size = d at *
  generalize w0.heap.size = b at *
  have hBd : w.heap.size ≤ d := by omega
  have hdb : d ≠ b := by omega
  clear hb0 hb1 hb2
  go_wp2_with fail
  rw [run_mkQ]
  have hA1 : Below w2.heap.size w2 (w2.alloc (.cells #[.pointer (some ⟨b, 0, none⟩), .pointer (some ⟨d, 0, none⟩)] 29)) := below_alloc (Below.refl _ _) _ (Nat.le_refl _)
  have hms := Blk.new w2 #[.pointer (some ⟨b, 0, none⟩), .pointer (some ⟨d, 0, none⟩)] 29
  have hsm := hbw.size
  generalize hbm : w2.heap.size = bm at *
  generalize hW3 : w2.alloc (.cells #[.pointer (some ⟨b, 0, none⟩), .pointer (some ⟨d, 0, none⟩)] 29) = w3 at *
  have hl3 : w3.heap.size = bm + 1 := by rw [← hW3, ← hbm]; simp
  have hA2 : Below w3.heap.size w3 (w3.alloc (.cells #[.slice none 0 0, .slice none 0 0] 23)) := below_alloc (Below.refl _ _) _ (Nat.le_refl _)
  have hqs := Blk.new w3 #[.slice none 0 0, .slice none 0 0] 23
  generalize hbq : w3.heap.size = bq at *
  generalize w3.alloc (.cells #[.slice none 0 0, .slice none 0 0] 23) = w4 at *
  have hSt : St w w4 b d bm bq (.slice none 0 0) (.slice none 0 0) (newM 100 100) (newM 100 100) [] [] :=
    ⟨(hM1.below hA1 (by omega)).below hA2 (by omega), (hD1.below hA1 (by omega)).below hA2 (by omega), fun e => hdb e.symm, Blk.below hms hA2 (by omega), hqs, Que.nil _ _ _, Que.nil _ _ _, fun k hk => by simp [Value.ownBlock] at hk, (hbw.trans (hA1.mono hsm)).trans (hA2.mono (by omega)), hB0, hBd, hsm, by omega⟩
  clear hM1 hD1 hA1 hA2 hms hqs hbw hl3 hbq hbm hW3 hsm hBd hdb hbd hB0 hdl
  go_wp2_with fail
  go_loopw [9] (fun i wr => ∃ j : Nat, j ≤ 2 ∧ i = .int .i64 j ∧ ∃ a0 c0 a1 c1, St w wr b d bm bq (.slice a0 (need1 j).length c0) (.slice a1 (need0 j).length c1) (at0 j) (at1 j) (need1 j) (need0 j)) (fun i _ => 2 - (intOf i).toNat)
  case atStart => exact ⟨0, by omega, rfl, none, 0, none, 0, hSt⟩
  case round =>
    clear hSt
    obtain ⟨j, hj, rfl, a0, c0, a1, c1, h⟩ := hrel
    by_cases h0 : j = 0
    · subst h0
      have h : St w wr b d bm bq (.slice a0 0 c0) (.slice a1 0 c1) (newM 100 100) (newM 100 100) [] [] := h
      go_wp2_with fail
      have hr := h.drew
      have mc1 := hr.ms.cell 0; have qc1 := hr.qs.cell 1; simp only [List.getElem?_toArray, List.getElem?_cons_zero, List.getElem?_cons_succ] at qc1 mc1
      have hD := do_on hr.a okS 2 hr.hb hr.ga
      have eL : doL (newM 100 100) 2 = [2] := rfl
      have eM : doM (newM 100 100) 2 = mO := rfl
      rw [eL, eM] at hD
      clear eL eM
      have hll : ([2] : List Nat).length ≤ 1000 := by decide
      have hlm : ([] : List Nat).length + (toldN [2]).length ≤ maxLen := by decide
      have hlb : (([] : List Nat).length + (toldN [2]).length) * 8 ≤ 140737488355328 := by decide
      have hl' := Lib.hid (show ([] : List Nat) ++ toldN [2] = [] from rfl)
      have hw1 : IntKind.i64.wrap 1 = 1 := by decide
      go_cut [] (fun W => ∃ a4 c4, St w W b d bm bq (.slice a0 0 c0) (.slice a4 (([] : List Nat)).length c4) mO (newM 100 100) [] ([] : List Nat))
      case first =>
        go_region_law (first | (refine step_appQ rfl _ _ 23 (by rfl) 3 i0 _ 8 Try.underlying23 hi'.out hz0 hz1 hz2 rfl rfl h3.q1 rfl hT.own (fun u hu => by obtain ⟨x, _, rfl⟩ := List.mem_map.1 hu; rfl) (by simp only [List.length_map]; exact hlm) (by simp only [List.length_map]; exact hlb) h3.hb.size ?_; intro v' w4 hq4 hg4 hn4; rw [← List.map_append, hl'.out] at hq4; obtain ⟨a4, c4, hv4⟩ := hq4.form; rw [List.length_map] at hv4; subst hv4; obtain ⟨qs4, ms4, h5⟩ := h3.put1 hq4 hg4 hn4; have mc4 := ms4.cell 0; have qc4 := qs4.cell 1; have f4 := qs4.free 1 none; simp only [List.getElem?_toArray, List.getElem?_cons_zero, List.getElem?_cons_succ] at qc4 mc4) | (refine step_go rfl hD (by go_simp) ?_; rintro e w2 ⟨p, q, rfl, hN, hg2, hM2, hb2⟩; refine ⟨_, rfl, ?_⟩; have h2 := hr.do0 hg2 hM2; have mc2 := h2.ms.cell 0; have qc2 := h2.qs.cell 1; simp only [List.getElem?_toArray, List.getElem?_cons_zero, List.getElem?_cons_succ] at qc2 mc2) | (refine step_go rfl (told_any hN hll) (by go_simp) ?_; rintro e w3 ⟨v, rfl, hT, hb3⟩; refine ⟨_, rfl, ?_⟩; have h3 := h2.below hb3; have mc3 := h3.ms.cell 0; have qc3 := h3.qs.cell 1; simp only [List.getElem?_toArray, List.getElem?_cons_zero, List.getElem?_cons_succ] at qc3 mc3))
        all_goals (go_wp2_with fail; go_meet; exact ⟨a4, c4, h5⟩)
      case rest =>
        obtain ⟨a4, c4, h4⟩ := hcut
        clear hr mc1 qc1 hD hll hlm hlb hl' hw1
        go_wp2_with fail
        have hr := h4.drew
        have mc1 := hr.ms.cell 0; have qc1 := hr.qs.cell 1; simp only [List.getElem?_toArray, List.getElem?_cons_zero, List.getElem?_cons_succ] at qc1 mc1
        have hD := do_on hr.a okO 0 hr.hb hr.ga
        have eL : doL mO 0 = [4, 6] := rfl
        have eM : doM mO 0 = mUp := rfl
        rw [eL, eM] at hD
        clear eL eM
        have hll : ([4, 6] : List Nat).length ≤ 1000 := by decide
        have hlm : ([] : List Nat).length + (toldN [4, 6]).length ≤ maxLen := by decide
        have hlb : (([] : List Nat).length + (toldN [4, 6]).length) * 8 ≤ 140737488355328 := by decide
        have hl' := Lib.hid (show ([] : List Nat) ++ toldN [4, 6] = [6] from rfl)
        have hw1 : IntKind.i64.wrap 1 = 1 := by decide
        go_region_law (first | (refine step_appQ rfl _ _ 23 (by rfl) 3 i0 _ 8 Try.underlying23 hi'.out hz0 hz1 hz2 rfl rfl h3.q1 rfl hT.own (fun u hu => by obtain ⟨x, _, rfl⟩ := List.mem_map.1 hu; rfl) (by simp only [List.length_map]; exact hlm) (by simp only [List.length_map]; exact hlb) h3.hb.size ?_; intro v' w4 hq4 hg4 hn4; rw [← List.map_append, hl'.out] at hq4; obtain ⟨a5, c5, hv4⟩ := hq4.form; rw [List.length_map] at hv4; subst hv4; obtain ⟨qs4, ms4, h5⟩ := h3.put1 hq4 hg4 hn4; have mc4 := ms4.cell 0; have qc4 := qs4.cell 1; have f4 := qs4.free 1 none; simp only [List.getElem?_toArray, List.getElem?_cons_zero, List.getElem?_cons_succ] at qc4 mc4) | (refine step_go rfl hD (by go_simp) ?_; rintro e w2 ⟨p, q, rfl, hN, hg2, hM2, hb2⟩; refine ⟨_, rfl, ?_⟩; have h2 := hr.do0 hg2 hM2; have mc2 := h2.ms.cell 0; have qc2 := h2.qs.cell 1; simp only [List.getElem?_toArray, List.getElem?_cons_zero, List.getElem?_cons_succ] at qc2 mc2) | (refine step_go rfl (told_any hN hll) (by go_simp) ?_; rintro e w3 ⟨v, rfl, hT, hb3⟩; refine ⟨_, rfl, ?_⟩; have h3 := h2.below hb3; have mc3 := h3.ms.cell 0; have qc3 := h3.qs.cell 1; simp only [List.getElem?_toArray, List.getElem?_cons_zero, List.getElem?_cons_succ] at qc3 mc3))
        all_goals go_wp2_with fail
        all_goals go_roundw
        all_goals first | (simp [intOf]; done) | exact ⟨1, by omega, by go_num, a0, c0, a5, c5, h5⟩
    · by_cases h1 : j = 1
      · subst h1
        have h : St w wr b d bm bq (.slice a0 0 c0) (.slice a1 1 c1) mUp (newM 100 100) [] [6] := h
        go_wp2_with fail
        have hr := h.drew
        have mc1 := hr.ms.cell 1; have qc1 := hr.qs.cell 0; simp only [List.getElem?_toArray, List.getElem?_cons_zero, List.getElem?_cons_succ] at qc1 mc1
        have hD := do_on hr.b okS 2 hr.hb hr.gb
        have eL : doL (newM 100 100) 2 = [2] := rfl
        have eM : doM (newM 100 100) 2 = mO := rfl
        rw [eL, eM] at hD
        clear eL eM
        have hll : ([2] : List Nat).length ≤ 1000 := by decide
        have hlm : ([] : List Nat).length + (toldN [2]).length ≤ maxLen := by decide
        have hlb : (([] : List Nat).length + (toldN [2]).length) * 8 ≤ 140737488355328 := by decide
        have hl' := Lib.hid (show ([] : List Nat) ++ toldN [2] = [] from rfl)
        have hw1 : IntKind.i64.wrap 0 = 0 := by decide
        go_cut [] (fun W => ∃ a4 c4, St w W b d bm bq (.slice a4 (([] : List Nat)).length c4) (.slice a1 1 c1) mUp mO ([] : List Nat) [6])
        case first =>
          go_region_law (first | (refine step_appQ rfl _ _ 23 (by rfl) 3 i0 _ 8 Try.underlying23 hi'.out hz0 hz1 hz2 rfl rfl h3.q0 rfl hT.own (fun u hu => by obtain ⟨x, _, rfl⟩ := List.mem_map.1 hu; rfl) (by simp only [List.length_map]; exact hlm) (by simp only [List.length_map]; exact hlb) h3.hb.size ?_; intro v' w4 hq4 hg4 hn4; rw [← List.map_append, hl'.out] at hq4; obtain ⟨a4, c4, hv4⟩ := hq4.form; rw [List.length_map] at hv4; subst hv4; obtain ⟨qs4, ms4, h5⟩ := h3.put0 hq4 hg4 hn4; have mc4 := ms4.cell 1; have qc4 := qs4.cell 0; have f4 := qs4.free 0 none; simp only [List.getElem?_toArray, List.getElem?_cons_zero, List.getElem?_cons_succ] at qc4 mc4) | (refine step_go rfl hD (by go_simp) ?_; rintro e w2 ⟨p, q, rfl, hN, hg2, hM2, hb2⟩; refine ⟨_, rfl, ?_⟩; have h2 := hr.do1 hg2 hM2; have mc2 := h2.ms.cell 1; have qc2 := h2.qs.cell 0; simp only [List.getElem?_toArray, List.getElem?_cons_zero, List.getElem?_cons_succ] at qc2 mc2) | (refine step_go rfl (told_any hN hll) (by go_simp) ?_; rintro e w3 ⟨v, rfl, hT, hb3⟩; refine ⟨_, rfl, ?_⟩; have h3 := h2.below hb3; have mc3 := h3.ms.cell 1; have qc3 := h3.qs.cell 0; simp only [List.getElem?_toArray, List.getElem?_cons_zero, List.getElem?_cons_succ] at qc3 mc3))
          all_goals (go_wp2_with fail; go_meet; exact ⟨a4, c4, h5⟩)
        case rest =>
          obtain ⟨a4, c4, h4⟩ := hcut
          clear hr mc1 qc1 hD hll hlm hlb hl' hw1
          go_wp2_with fail
          have hr := h4.drew
          have mc1 := hr.ms.cell 1; have qc1 := hr.qs.cell 0; simp only [List.getElem?_toArray, List.getElem?_cons_zero, List.getElem?_cons_succ] at qc1 mc1
          have hD := do_on hr.b okO 0 hr.hb hr.gb
          have eL : doL mO 0 = [4, 6] := rfl
          have eM : doM mO 0 = mUp := rfl
          rw [eL, eM] at hD
          clear eL eM
          have hll : ([4, 6] : List Nat).length ≤ 1000 := by decide
          have hlm : ([] : List Nat).length + (toldN [4, 6]).length ≤ maxLen := by decide
          have hlb : (([] : List Nat).length + (toldN [4, 6]).length) * 8 ≤ 140737488355328 := by decide
          have hl' := Lib.hid (show ([] : List Nat) ++ toldN [4, 6] = [6] from rfl)
          have hw1 : IntKind.i64.wrap 0 = 0 := by decide
          go_region_law (first | (refine step_appQ rfl _ _ 23 (by rfl) 3 i0 _ 8 Try.underlying23 hi'.out hz0 hz1 hz2 rfl rfl h3.q0 rfl hT.own (fun u hu => by obtain ⟨x, _, rfl⟩ := List.mem_map.1 hu; rfl) (by simp only [List.length_map]; exact hlm) (by simp only [List.length_map]; exact hlb) h3.hb.size ?_; intro v' w4 hq4 hg4 hn4; rw [← List.map_append, hl'.out] at hq4; obtain ⟨a5, c5, hv4⟩ := hq4.form; rw [List.length_map] at hv4; subst hv4; obtain ⟨qs4, ms4, h5⟩ := h3.put0 hq4 hg4 hn4; have mc4 := ms4.cell 1; have qc4 := qs4.cell 0; have f4 := qs4.free 0 none; simp only [List.getElem?_toArray, List.getElem?_cons_zero, List.getElem?_cons_succ] at qc4 mc4) | (refine step_go rfl hD (by go_simp) ?_; rintro e w2 ⟨p, q, rfl, hN, hg2, hM2, hb2⟩; refine ⟨_, rfl, ?_⟩; have h2 := hr.do1 hg2 hM2; have mc2 := h2.ms.cell 1; have qc2 := h2.qs.cell 0; simp only [List.getElem?_toArray, List.getElem?_cons_zero, List.getElem?_cons_succ] at qc2 mc2) | (refine step_go rfl (told_any hN hll) (by go_simp) ?_; rintro e w3 ⟨v, rfl, hT, hb3⟩; refine ⟨_, rfl, ?_⟩; have h3 := h2.below hb3; have mc3 := h3.ms.cell 1; have qc3 := h3.qs.cell 0; simp only [List.getElem?_toArray, List.getElem?_cons_zero, List.getElem?_cons_succ] at qc3 mc3))
          all_goals go_wp2_with fail
          all_goals go_roundw
          all_goals first | (simp [intOf]; done) | exact ⟨2, by omega, by go_num, a5, c5, a1, c1, h5⟩
      · obtain rfl : j = 2 := by omega
        have h : St w wr b d bm bq (.slice a0 1 c0) (.slice a1 1 c1) mUp mUp [6] [6] := h
        have hDu : Duo mUp mUp [6] [6] := ⟨okUp, okUp, .inl rfl, .inl rfl, by decide, by decide, rfl, rfl⟩
        go_wp2_with fail
        go_loopw [10] (fun v W => ∃ (k : Nat) (m0 m1 : M) (l0 l1 : List Nat) (a0 : Option Addr) (c0 : Nat) (a1 : Option Addr) (c1 : Nat), v = .int .i64 k ∧ hears m0.state + hears m1.state = k ∧ Duo m0 m1 l0 l1 ∧ St w W b d bm bq (.slice a0 l0.length c0) (.slice a1 l1.length c1) m0 m1 l0 l1) (fun v _ => 4 - (intOf v).toNat)
        case atStart => exact ⟨0, mUp, mUp, [6], [6], a0, c0, a1, c1, rfl, rfl, hDu, h⟩
        case round =>
          clear h hDu
          obtain ⟨k, m0, m1, l0, l1, a0, c0, a1, c1, rfl, hk, hDu, h⟩ := hrel
          have hk4 : k ≤ 4 := by have := hears_le m0.state; have := hears_le m1.state; omega
          have hn0 := hDu.len
          have hn1 := hDu.flip.len
          have q0 := h.qs.cell 0
          have q1 := h.qs.cell 1
          simp only [List.getElem?_toArray, List.getElem?_cons_zero, List.getElem?_cons_succ] at q0 q1
          have hws : IntKind.i64.wrap ((l0.length : Int) + (l1.length : Int)) = (l0.length : Int) + (l1.length : Int) := by rw [IntWalk.i64_left]; exact IntWalk.wrap64_in _ (by omega)
          have hk400 : (k : Int) < 400 := by omega
          by_cases hz : l0.length + l1.length = 0
          · have e0 : l0 = [] := List.eq_nil_of_length_eq_zero (by omega)
            have e1 : l1 = [] := List.eq_nil_of_length_eq_zero (by omega)
            subst e0; subst e1
            have hd := hDu.done
            go_wp2_with fail
            go_quiet (fail)
            have h := h.below (below_drewN (Below.refl wr.heap.size wr) nq)
            have p0 := h.ms.cell 0
            have p1 := h.ms.cell 1
            simp only [List.getElem?_toArray, List.getElem?_cons_zero, List.getElem?_cons_succ] at p0 p1
            have s0 := State_any h.a
            have s1 := State_any h.b
            rw [hd.1] at s0
            rw [hd.2] at s1
            have hbE := h.hb
            go_wp2_with (first | (go_at_call_of 20 (some (Addr.mk b 0 none)); refine s0.mono ?_; rintro e _ ⟨rfl, rfl⟩) | (go_at_call_of 20 (some (Addr.mk d 0 none)); refine s1.mono ?_; rintro e _ ⟨rfl, rfl⟩))
            go_ret
            exact ⟨rfl, hbE⟩
          · have hpos : (0 : Int) < (l0.length : Int) + (l1.length : Int) := by omega
            go_wp2_with fail
            go_quiet (fail)
            have h := h.below (below_drewN (Below.refl wr.heap.size wr) nq)
            generalize wr.drewN nq = W at *
            have q0 := h.qs.cell 0
            have q1 := h.qs.cell 1
            simp only [List.getElem?_toArray, List.getElem?_cons_zero, List.getElem?_cons_succ] at q0 q1
            clear hws hpos hk400
            go_upto_if 91 with fail
            go_cut [11] (fun i W' => W' = W ∧ (i = .int .i64 0 ∨ i = .int .i64 1))
            case first =>
              by_cases hkn : k < n
              · obtain ⟨bo, oo, rfl, hc⟩ := (hB.below h.hb (Nat.le_refl _)).addr (by omega)
                have g := hc k hkn
                clear hc
                have hXl := (l.getD k 0).toNat_lt
                generalize (l.getD k 0).toNat = X at *
                have hkI : (k : Int) < (n : Int) := by omega
                have hX2 : (X : Int) % 2 = 0 ∨ (X : Int) % 2 = 1 := by omega
                go_wp2_with fail
                go_meet
                exact ⟨rfl, by rcases hX2 with e | e <;> rw [e] <;> simp⟩
              · have hkI : ¬ (k : Int) < (n : Int) := by omega
                go_wp2_with fail
                go_meet
                exact ⟨rfl, .inl rfl⟩
            case rest =>
              obtain ⟨hW, hi⟩ := hcut
              replace hW := hW.symm
              subst hW
              go_upto_region 22 with fail
              go_cut [11, 103] (fun i t W' => W' = W ∧ ((i = .int .i64 0 ∧ l0.length = 0 ∧ t = .bool true) ∨ (i = .int .i64 0 ∧ l0.length ≠ 0 ∧ t = .bool false) ∨ (i = .int .i64 1 ∧ l1.length = 0 ∧ t = .bool true) ∨ (i = .int .i64 1 ∧ l1.length ≠ 0 ∧ t = .bool false)))
              case first =>
                rcases hi with rfl | rfl
                · by_cases z : l0.length = 0
                  · have z' : ((l0.length : Int) == 0) = true := by rw [z]; rfl
                    go_wp2_with fail
                    go_meet
                    exact ⟨rfl, .inl ⟨rfl, z, by simp⟩⟩
                  · have z' : ((l0.length : Int) == 0) = false := by rw [beq_eq_false_iff_ne]; omega
                    go_wp2_with fail
                    go_meet
                    exact ⟨rfl, .inr (.inl ⟨rfl, z, rfl⟩)⟩
                · by_cases z : l1.length = 0
                  · have z' : ((l1.length : Int) == 0) = true := by rw [z]; rfl
                    go_wp2_with fail
                    go_meet
                    exact ⟨rfl, .inr (.inr (.inl ⟨rfl, z, by simp⟩))⟩
                  · have z' : ((l1.length : Int) == 0) = false := by rw [beq_eq_false_iff_ne]; omega
                    go_wp2_with fail
                    go_meet
                    exact ⟨rfl, .inr (.inr (.inr ⟨rfl, z, rfl⟩))⟩
              case rest =>
                clear hi
                obtain ⟨hW, hi⟩ := hcut
                replace hW := hW.symm
                subst hW
                go_upto_if 103 with fail
                go_cut [11] (fun i W' => W' = W ∧ ((i = .int .i64 0 ∧ l0.length ≠ 0) ∨ (i = .int .i64 1 ∧ l1.length ≠ 0)))
                case first =>
                  rcases hi with ⟨rfl, z, rfl⟩ | ⟨rfl, z, rfl⟩ | ⟨rfl, z, rfl⟩ | ⟨rfl, z, rfl⟩
                  · go_wp2_with fail
                    go_meet
                    exact ⟨rfl, .inr ⟨rfl, by omega⟩⟩
                  · go_wp2_with fail
                    go_meet
                    exact ⟨rfl, .inl ⟨rfl, z⟩⟩
                  · go_wp2_with fail
                    go_meet
                    exact ⟨rfl, .inl ⟨rfl, by omega⟩⟩
                  · go_wp2_with fail
                    go_meet
                    exact ⟨rfl, .inr ⟨rfl, z⟩⟩
                case rest =>
                  clear hi
                  obtain ⟨hW, hi⟩ := hcut
                  replace hW := hW.symm
                  subst hW
                  rcases hi with ⟨rfl, z⟩ | ⟨rfl, z⟩
                  · obtain ⟨x, t, rfl⟩ : ∃ x t, l0 = x :: t := by
                      cases l0 with
                      | nil => exact absurd rfl z
                      | cons x t => exact ⟨x, t, rfl⟩
                    have h : St w W b d bm bq (.slice a0 (t.length + 1) c0) (.slice a1 l1.length c1) m0 m1 (x :: t) l1 := h
                    obtain ⟨g, off, rfl, gx⟩ := h.q0.head rfl
                    have hp := h.pop0
                    have fq := h.qs.free 0 none
                    have hsl := fun W => run_sub (P := Try.prog) Try.underlying23 hi'.out hz1 (some ⟨g, off, none⟩) (t.length + 1) c0 1 (by omega) W
                    have q0 := h.qs.cell 0
                    simp only [List.getElem?_toArray, List.getElem?_cons_zero] at q0
                    simp only [Nat.add_sub_cancel] at hp hsl
                    generalize (if c0 = 1 then some (⟨g, off, none⟩ : Addr) else (some (⟨g, off, none⟩ : Addr)).map (·.add 1)) = a6 at *
                    generalize c0 - 1 = c6 at *
                    have hsl' : ∀ W, (Instr.slice 23 (.slice (some ⟨g, off, none⟩) (t.length + 1) c0) (some (.int .i64 1)) none none).run Try.prog W = .ok (.slice a6 t.length c6) W := hsl
                    clear hsl
                    obtain ⟨hDn, hhe, htl, hdl⟩ := hDu.step
                    clear h
                    go_wp2_with fail
                    have hr := hp.drew
                    have mc1 := hr.ms.cell 0; have qc1 := hr.qs.cell 1; simp only [List.getElem?_toArray, List.getElem?_cons_zero, List.getElem?_cons_succ] at qc1 mc1
                    have hD := do_on hr.a hDu.o0 x hr.hb hr.ga
                    have hll : (doL m0 x).length ≤ 1000 := by omega
                    have hlm : l1.length + (toldN (doL m0 x)).length ≤ maxLen := by unfold maxLen; omega
                    have hlb : (l1.length + (toldN (doL m0 x)).length) * 8 ≤ 140737488355328 := by omega
                    have hw1 : IntKind.i64.wrap 1 = 1 := by decide
                    generalize doL m0 x = L at *
                    generalize doM m0 x = m' at *
                    obtain ⟨l', hl'⟩ : ∃ l', l1 ++ toldN L = l' := ⟨_, rfl⟩
                    rw [hl'] at hDn
                    have hl' := Lib.hid hl'
                    have hk3 : k < 4 := by have := hears_le m'.state; have := hears_le m1.state; omega
                    have hkk : hears m'.state + hears m1.state = k + 1 := by omega
                    clear hhe hdl htl hk
                    go_region_law (first | (refine step_appQ rfl _ _ 23 (by rfl) 3 i0 _ 8 Try.underlying23 hi'.out hz0 hz1 hz2 rfl rfl h3.q1 rfl hT.own (fun u hu => by obtain ⟨x, _, rfl⟩ := List.mem_map.1 hu; rfl) (by simp only [List.length_map]; exact hlm) (by simp only [List.length_map]; exact hlb) h3.hb.size ?_; intro v' w4 hq4 hg4 hn4; rw [← List.map_append, hl'.out] at hq4; obtain ⟨a8, c8, hv4⟩ := hq4.form; rw [List.length_map] at hv4; subst hv4; obtain ⟨qs4, ms4, h5⟩ := h3.put1 hq4 hg4 hn4; have mc4 := ms4.cell 0; have qc4 := qs4.cell 1; have f4 := qs4.free 1 none; simp only [List.getElem?_toArray, List.getElem?_cons_zero, List.getElem?_cons_succ] at qc4 mc4) | (refine step_go rfl hD (by go_simp) ?_; rintro e w2 ⟨p, q, rfl, hN, hg2, hM2, hb2⟩; refine ⟨_, rfl, ?_⟩; have h2 := hr.do0 hg2 hM2; have mc2 := h2.ms.cell 0; have qc2 := h2.qs.cell 1; simp only [List.getElem?_toArray, List.getElem?_cons_zero, List.getElem?_cons_succ] at qc2 mc2) | (refine step_go rfl (told_any hN hll) (by go_simp) ?_; rintro e w3 ⟨v, rfl, hT, hb3⟩; refine ⟨_, rfl, ?_⟩; have h3 := h2.below hb3; have mc3 := h3.ms.cell 0; have qc3 := h3.qs.cell 1; simp only [List.getElem?_toArray, List.getElem?_cons_zero, List.getElem?_cons_succ] at qc3 mc3))
                    all_goals go_wp2_with fail
                    all_goals go_roundw
                    all_goals first | ((repeat apply Exists.intro); exact ⟨⟨k + 1, m', m1, t, l', a6, c6, a8, c8, by go_num, hkk, hDn, h5⟩, rfl⟩) | (simp [intOf]; omega)
                  · obtain ⟨x, t, rfl⟩ : ∃ x t, l1 = x :: t := by
                      cases l1 with
                      | nil => exact absurd rfl z
                      | cons x t => exact ⟨x, t, rfl⟩
                    have h : St w W b d bm bq (.slice a0 l0.length c0) (.slice a1 (t.length + 1) c1) m0 m1 l0 (x :: t) := h
                    obtain ⟨g, off, rfl, gx⟩ := h.q1.head rfl
                    have hp := h.pop1
                    have fq := h.qs.free 1 none
                    have hsl := fun W => run_sub (P := Try.prog) Try.underlying23 hi'.out hz1 (some ⟨g, off, none⟩) (t.length + 1) c1 1 (by omega) W
                    have q1 := h.qs.cell 1
                    simp only [List.getElem?_toArray, List.getElem?_cons_zero, List.getElem?_cons_succ] at q1
                    simp only [Nat.add_sub_cancel] at hp hsl
                    generalize (if c1 = 1 then some (⟨g, off, none⟩ : Addr) else (some (⟨g, off, none⟩ : Addr)).map (·.add 1)) = a6 at *
                    generalize c1 - 1 = c6 at *
                    have hsl' : ∀ W, (Instr.slice 23 (.slice (some ⟨g, off, none⟩) (t.length + 1) c1) (some (.int .i64 1)) none none).run Try.prog W = .ok (.slice a6 t.length c6) W := hsl
                    clear hsl
                    obtain ⟨hDn, hhe, htl, hdl⟩ := hDu.flip.step
                    clear h
                    go_wp2_with fail
                    have hr := hp.drew
                    have mc1 := hr.ms.cell 1; have qc1 := hr.qs.cell 0; simp only [List.getElem?_toArray, List.getElem?_cons_zero, List.getElem?_cons_succ] at qc1 mc1
                    have hD := do_on hr.b hDu.o1 x hr.hb hr.gb
                    have hll : (doL m1 x).length ≤ 1000 := by omega
                    have hlm : l0.length + (toldN (doL m1 x)).length ≤ maxLen := by unfold maxLen; omega
                    have hlb : (l0.length + (toldN (doL m1 x)).length) * 8 ≤ 140737488355328 := by omega
                    have hw1 : IntKind.i64.wrap 0 = 0 := by decide
                    generalize doL m1 x = L at *
                    generalize doM m1 x = m' at *
                    obtain ⟨l', hl'⟩ : ∃ l', l0 ++ toldN L = l' := ⟨_, rfl⟩
                    rw [hl'] at hDn
                    have hl' := Lib.hid hl'
                    have hk3 : k < 4 := by have := hears_le m'.state; have := hears_le m0.state; omega
                    have hkk : hears m'.state + hears m0.state = k + 1 := by omega
                    clear hhe hdl htl hk
                    go_region_law (first | (refine step_appQ rfl _ _ 23 (by rfl) 3 i0 _ 8 Try.underlying23 hi'.out hz0 hz1 hz2 rfl rfl h3.q0 rfl hT.own (fun u hu => by obtain ⟨x, _, rfl⟩ := List.mem_map.1 hu; rfl) (by simp only [List.length_map]; exact hlm) (by simp only [List.length_map]; exact hlb) h3.hb.size ?_; intro v' w4 hq4 hg4 hn4; rw [← List.map_append, hl'.out] at hq4; obtain ⟨a8, c8, hv4⟩ := hq4.form; rw [List.length_map] at hv4; subst hv4; obtain ⟨qs4, ms4, h5⟩ := h3.put0 hq4 hg4 hn4; have mc4 := ms4.cell 1; have qc4 := qs4.cell 0; have f4 := qs4.free 0 none; simp only [List.getElem?_toArray, List.getElem?_cons_zero, List.getElem?_cons_succ] at qc4 mc4) | (refine step_go rfl hD (by go_simp) ?_; rintro e w2 ⟨p, q, rfl, hN, hg2, hM2, hb2⟩; refine ⟨_, rfl, ?_⟩; have h2 := hr.do1 hg2 hM2; have mc2 := h2.ms.cell 1; have qc2 := h2.qs.cell 0; simp only [List.getElem?_toArray, List.getElem?_cons_zero, List.getElem?_cons_succ] at qc2 mc2) | (refine step_go rfl (told_any hN hll) (by go_simp) ?_; rintro e w3 ⟨v, rfl, hT, hb3⟩; refine ⟨_, rfl, ?_⟩; have h3 := h2.below hb3; have mc3 := h3.ms.cell 1; have qc3 := h3.qs.cell 0; simp only [List.getElem?_toArray, List.getElem?_cons_zero, List.getElem?_cons_succ] at qc3 mc3))
                    all_goals go_wp2_with fail
                    all_goals go_roundw
                    all_goals first | ((repeat apply Exists.intro); exact ⟨⟨k + 1, m0, m', l', t, a8, c8, a6, c6, by go_num, (Nat.add_comm _ _).trans hkk, hDn.flip, h5⟩, rfl⟩) | (simp [intOf]; omega)
theorem two_any {w : World} {a : Option Addr} {n c : Nat} {zs : List Int} (hI : IsRow .u8 w a n c zs) :
    Calls Try.prog 4 #[.slice a n c] w fun e w' => e = .returned (.bool true) ∧ Below w.heap.size w w' := by
  by_cases hn : n ≤ 200
  · exact two_in (Bts.of_row hI n (Nat.le_refl _) (by omega)) hn
  · have hm := hI.le
    go_enter Try.func4, Try.ntmps4
    go_wp2_with (go_at_call 13; refine (awake_any _).mono ?_; rintro e w0 ⟨rfl, hb0⟩)
    go_ret
    exact ⟨rfl, hb0⟩
end Go.Proofs.Ytjcigaonadkhkaa
