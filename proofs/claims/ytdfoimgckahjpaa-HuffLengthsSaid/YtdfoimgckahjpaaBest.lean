/-
  The walk of best. No conditions.
-/
import Derived.Test.YtdfoimgckahjpaaBest0
namespace Go.Proofs.Ytdfoimgckahjpaa
open Go.RowKit
set_option maxRecDepth 100000 in
set_option maxHeartbeats 8000000 in
theorem best_any {w : World} {B1 Bo g n c lc cc : Nat} {la ca : Option Addr} {Z L : List Nat} (hZ : Nums w B1 (.slice la Z.length lc) Z) (hC : Zs w ca n cc (ints L)) (hO : Nums w Bo (.slice (some ⟨g, 0, none⟩) n c) (List.replicate n 0)) (hz : ∀ x, x ∈ Z → x < n) (hd : Z.Nodup) (ha : Asc (fun s => L.getD s 0) Z) (hn : n ≤ 320) (hl : Z.length ≤ 320) (hsm : ∀ s, L.getD s 0 ≤ 1073741824) :
    Calls Try.prog 60 #[.slice la Z.length lc, .slice ca n cc, .slice (some ⟨g, 0, none⟩) n c] w fun e w' => e = .returned (.tuple #[]) ∧ Nums w' Bo (.slice (some ⟨g, 0, none⟩) n c) (bestO Z.length (nodes0 (fun s => L.getD s 0) Z) (List.replicate n 0)) ∧ ButOf (fun x => x = g) w w' := by
  obtain ⟨i0, hi, hz0, hz1, hz2⟩ := info_parts info_node
  have hi' := Lib.hid hi; clear hi
  have hgw0 : g < w.heap.size := (World.ownsRow.lt hO _ rfl).2
  obtain ⟨m, hm⟩ : ∃ m, Z.length = m := ⟨_, rfl⟩
  rw [hm] at hl hZ ⊢
  obtain ⟨R, hR⟩ : ∃ R, bestO m (nodes0 (fun s => L.getD s 0) Z) (List.replicate n 0) = R := ⟨_, rfl⟩
  rw [hR]
  have hst : Hid (Good (fun s => L.getD s 0) m Z (nodes0 (fun s => L.getD s 0) Z) (List.replicate n 0) ∧ bestO (nodes0 (fun s => L.getD s 0) Z).length (nodes0 (fun s => L.getD s 0) Z) (List.replicate n 0) = R ∧ (List.replicate n 0).length = n) :=
    Lib.hid ⟨Good.start ha, by rw [nodes0_length, hm]; exact hR, List.length_replicate⟩
  clear hR ha
  have hmI : (m : Int) ≤ 320 := by omega
  have hnI : (n : Int) ≤ 320 := by omega
  have hsn := fun k (hk : k < m) => nodes0_snoc (fun s => L.getD s 0) Z (k := k) (by omega)
  have hmem := fun k (hk : k < m) => hz _ (n_getD_mem (l := Z) (k := k) (by omega))
  replace hsn := Lib.hid hsn
  replace hmem := Lib.hid hmem
  replace hm := Lib.hid hm
  go_enter Try.func60, Try.ntmps60
  go_wp2_with fail
  go_loopw [6, 17] (fun v i wr => ∃ (k : Nat) (xs : List Value), k ≤ m ∧ i = .int .i64 (k : Nat) ∧ wr.ownsRow w.heap.size 96 2 v k xs ∧ Nds wr w.heap.size xs (nodes0 (fun s => L.getD s 0) (Z.take k)) ∧ Below w.heap.size w wr) (fun _ i _ => m - (intOf i).toNat)
  case atStart => exact ⟨0, [], Nat.zero_le _, rfl, World.ownsRow_nil _ _ _ _, by rw [List.take_zero]; trivial, Below.refl _ _⟩
  case round =>
    obtain ⟨k, xs, hk, rfl, hV, hN, hb⟩ := hrel
    by_cases hlt : k < m
    · have hltI : (k : Int) < (m : Int) := by omega
      obtain ⟨rz, rfl, gz⟩ := (hZ.below hb).cell (j := k) (by have := hm.out; omega)
      replace gz : wr.cell? ⟨rz, k, none⟩ = some (.int .i64 (Z.getD k 0 : Nat)) := gz
      have hzn := hmem.out k hlt
      have hsn2 := hsn.out k hlt
      have hx := hsm (Z.getD k 0)
      generalize Z.getD k 0 = z at *
      have hznI : (z : Int) < (n : Int) := by omega
      obtain ⟨bc, oc, rfl, hbc, gc⟩ := hC.at_ hb (j := z) hzn
      rw [ints_getD] at gc
      generalize L.getD z 0 = x at *
      have hxI : (x : Int) ≤ 1073741824 := by omega
      obtain ⟨av, cv, rfl⟩ := own_formN hV
      obtain ⟨n1, n2⟩ := nd_new (w := w) (W := wr) (z := z) (x := x) hb
      have hb2 := below_alloc (below_alloc (Below.refl wr.heap.size wr) (.cells #[.int .i64 (z : Nat)] 3) (Nat.le_refl _)) (.cells #[.int .i64 (x : Nat), .slice (some ⟨wr.heap.size, 0, none⟩) 1 1] 96) (Nat.le_refl _)
      have hV2 := own_below hV hb2
      have hN2 := hN.below hb2
      have hb3 := hb.trans (hb2.mono hb.size)
      have hs2 := hb2.size
      have hs3 := hb.size
      replace hsn2 := Lib.hid hsn2
      have hcell : ∀ j u, [Value.int .i64 (x : Nat), .slice (some ⟨wr.heap.size, 0, none⟩) 1 1][j]? = some u → ((wr.alloc (.cells #[.int .i64 (z : Nat)] 3)).alloc (.cells #[.int .i64 (x : Nat), .slice (some ⟨wr.heap.size, 0, none⟩) 1 1] 96)).cell? ((⟨wr.heap.size + 1, 0, none⟩ : Addr).add j) = some u := fun j u hj => by
        rw [show (⟨wr.heap.size + 1, 0, none⟩ : Addr).add j = ⟨wr.heap.size + 1, 0 + j, none⟩ by unfold Addr.add; split <;> simp_all, n2.cell, Nat.zero_add]
        simpa using hj
      replace hcell := Lib.hid hcell
      replace hsm := Lib.hid hsm
      clear hV hN hb
      go_wp2_with (at_builtin; go_must (refine wpList_append_own_at _ rfl _ _ 94 rfl w.heap.size 96 i0 _ 2 32 Try.underlying94 hi'.out hz0 hz1 hz2 rfl (by decide) (.slice av k cv) k xs rfl hV2 ⟨wr.heap.size + 1, 0, none⟩ 1 1 [.int .i64 (x : Nat), .slice (some ⟨wr.heap.size, 0, none⟩) 1 1] rfl ?c0 hcell.out ?c2 ?c3 ?c4 (by omega) ?_))
      case c0 => rfl
      case c2 => intro u hu; rcases List.mem_cons.1 hu with rfl | hu; rfl; rcases List.mem_cons.1 hu with rfl | hu; rfl; cases hu
      case c3 => unfold maxLen; omega
      case c4 => omega
      intro v4 w4 ho4 hg4 _ _
      have hb4 := below_grown hb3 hV2 hg4 (by omega)
      have hN4 : Nds w4 w.heap.size (xs ++ [.int .i64 (x : Nat), .slice (some ⟨wr.heap.size, 0, none⟩) 1 1]) (nodes0 (fun s => L.getD s 0) (Z.take (k + 1))) := by
        rw [hsn2.out]
        exact (hN2.grown hV2 hg4).append ⟨rfl, n1.grown hV2 hg4, trivial⟩
      clear hV2 hN2 hb2 hb3 hg4 n1 n2 hcell
      go_wp2_with fail
      go_roundw
      case rel => exact ⟨k + 1, _, by omega, by go_num, ho4, hN4, hb4⟩
      case measure => simp [intOf]; omega
    · obtain rfl : k = m := by omega
      rw [List.take_of_length_le (by have := hm.out; omega)] at hN
      have hnl := nodes0_length (fun s => L.getD s 0) Z
      rw [hm.out] at hnl
      rw [← hnl] at hV
      have hO1 := hO.below (hb.trans (Below.refl _ _))
      have hbt : ButOf (fun x => x = g) w wr := ButOf.of_below hb
      replace hnl := Lib.hid hnl
      clear hO hsn hmem hZ hC hz0 hz1 hz2 hi'
      go_wp2_with fail
      clear hb
      go_loopw [6] (fun v wr => ∃ (ns : List Nd) (xs : List Value) (O : List Nat) (l2 : Nat), Hid (ns.length = l2) ∧ wr.ownsRow w.heap.size 96 2 v l2 xs ∧ Nds wr w.heap.size xs ns ∧ Nums wr Bo (.slice (some ⟨g, 0, none⟩) n c) O ∧ ButOf (fun x => x = g) w wr ∧ Hid (Good (fun s => L.getD s 0) k Z ns O ∧ bestO ns.length ns O = R ∧ O.length = n)) (fun v _ => lenV v)
      case atStart => exact ⟨_, xs, _, _, Lib.hid rfl, hV, hN, hO1, hbt, hst⟩
      case round =>
        clear hV hN hO1 hbt hst
        obtain ⟨ns, xs, O, l2, hl2, hV, hN, hO, hbt, hst⟩ := hrel
        obtain ⟨w2, hw2⟩ : ∃ x, x = wr := ⟨_, rfl⟩
        subst hw2
        have hlv := own_lenV hV
        by_cases hlt2 : 1 < l2
        · obtain ⟨a, b, r, rfl⟩ : ∃ a b r, ns = a :: b :: r := by
            have h9 : 1 < ns.length := by rw [hl2.out]; exact hlt2
            match ns, h9 with
            | a :: b :: r, _ => exact ⟨a, b, r, rfl⟩
          obtain ⟨hG, hR, hOl⟩ := hst.out
          obtain ⟨g1, g2, g3, g4, g5, g6, g7⟩ := hG.two hd (by have := hm.out; omega) hz hsm
          have hG2 := (hG.step hd (fun s hs => by rw [hOl]; exact hz s hs) (by rw [hm.out]; exact Nat.le_refl _)).1
          obtain ⟨va, ys1, rfl, hNa, hN1⟩ := hN.two
          obtain ⟨vb, ys, rfl, hNb, hNr⟩ := hN1.two
          obtain ⟨A, U⟩ := a
          obtain ⟨D, V⟩ := b
          dsimp only at g1 g2 g3 g4 g5 g6 hG2 hNa hNb hV
          obtain ⟨q, cq, cur, rfl, hq1, hq2, hq3, hqb, hqc⟩ := own_formP hV (by omega)
          have e0 := hqc 0 _ rfl
          have e1 := hqc 1 _ rfl
          have e2 := hqc 2 _ rfl
          have e3 := hqc 3 _ rfl
          obtain ⟨aa, ac, rfl⟩ := hNa.form
          obtain ⟨ba, bc, rfl⟩ := hNb.form
          have hlI : (1 : Int) < (l2 : Int) := by omega
          have hl3 : r.length + 2 = l2 := by rw [← hl2.out]; rfl
          have hl2I : (l2 : Int) ≤ 320 := by omega
          have hgw : g < w2.heap.size := (World.ownsRow.lt hO _ rfl).2
          have hl0I : (0 : Int) < (l2 : Int) := by omega
          have hl0N : 0 < l2 := by omega
          have hqlt := hqb.lt
          have hkeep : ∀ W, Below w2.heap.size w2 W → W.cell? ⟨q, 0, none⟩ = some (.int .i64 (A : Nat)) ∧ W.cell? ⟨q, 1, none⟩ = some (.slice aa U.length ac) ∧ W.cell? ⟨q, 2, none⟩ = some (.int .i64 (D : Nat)) ∧ W.cell? ⟨q, 3, none⟩ = some (.slice ba V.length bc) := fun W hW =>
            ⟨(hW.cell (p := ⟨q, 0, none⟩) hqlt).trans e0, (hW.cell (p := ⟨q, 1, none⟩) hqlt).trans e1, (hW.cell (p := ⟨q, 2, none⟩) hqlt).trans e2, (hW.cell (p := ⟨q, 3, none⟩) hqlt).trans e3⟩
          replace hkeep := Lib.hid hkeep
          replace hG2 := Lib.hid hG2
          replace hR := Lib.hid hR
          clear hst hG hN1 hN hqc
          go_wp2_with fail
          go_cut [9, 10] (fun t9 t10 W => ∃ ab bb, t9 = .pointer (some ⟨ab, 0, none⟩) ∧ t10 = .pointer (some ⟨bb, 0, none⟩) ∧ Blk W ab #[.int .i64 (A : Nat), .slice aa U.length ac] 96 ∧ Blk W bb #[.int .i64 (D : Nat), .slice ba V.length bc] 96 ∧ ab ≠ bb ∧ w2.heap.size ≤ ab ∧ w2.heap.size ≤ bb ∧ Below w2.heap.size w2 W)
          case first =>
            go_region_held3 (fun W => W.cell? ⟨q, 0, none⟩ = some (.int .i64 (A : Nat)) ∧ W.cell? ⟨q, 1, none⟩ = some (.slice aa U.length ac) ∧ W.cell? ⟨q, 2, none⟩ = some (.int .i64 (D : Nat)) ∧ W.cell? ⟨q, 3, none⟩ = some (.slice ba V.length bc)) ((refine hkeep.out _ ?_; repeat (first | exact Below.refl _ _ | refine Below.drew ?_ | refine below_alloc ?_ _ (Nat.le_refl _)))) (first | fail)
            all_goals go_wp2_with fail
            all_goals go_meet
            · obtain ⟨h1, h2, h3, -⟩ := two_new w2 #[.int .i64 (A : Nat), .slice aa U.length ac] #[.int .i64 (D : Nat), .slice ba V.length bc] 96 96
              exact ⟨_, _, rfl, rfl, h1, h2, by omega, by omega, by omega, h3⟩
            · obtain ⟨h1, h2, h3, -⟩ := two_new w2 #[.int .i64 (D : Nat), .slice ba V.length bc] #[.int .i64 (A : Nat), .slice aa U.length ac] 96 96
              exact ⟨_, _, rfl, rfl, h2, h1, by omega, by omega, by omega, h3⟩
          case rest =>
            obtain ⟨ab, bb, rfl, rfl, hA, hB, hab, ga, gb, hbl⟩ := hcut
            obtain ⟨w3, hw3⟩ : ∃ x, x = wc := ⟨_, rfl⟩
            subst hw3
            have hs1 := hbl.size
            obtain ⟨S, hS⟩ : ∃ S, U ++ V = S := ⟨_, rfl⟩
            have hcc : ∀ W sb, Below w3.heap.size w3 W → W.cell? ⟨sb, 0, none⟩ = some (.slice aa U.length ac) → W.cell? ⟨sb, 1, none⟩ = some (.slice ba V.length bc) → Calls Try.prog 66 #[.slice (some ⟨sb, 0, none⟩) 2 2] W fun e w' => ∃ av cv, e = .returned (.slice av S.length cv) ∧ Nums w' w3.heap.size (.slice av S.length cv) S ∧ Below w3.heap.size w3 w' ∧ Below W.heap.size W w' := fun W sb hW h0 h1 =>
              (concat_any h0 h1 ((hNa.below hbl).below hW).zs ((hNb.below hbl).below hW).zs (by omega) g6).mono fun e w' ⟨v, e1, e2, e3⟩ => by
                obtain ⟨av, cv, rfl⟩ := e2.form
                rw [hS] at e1 e2
                exact ⟨av, cv, e1, e2.mono hW.size, hW.trans (e3.mono hW.size), e3⟩
            rw [hS] at g3 g4 hG2
            have hSl : S.length ≤ 320 := by rw [← hS, List.length_append]; exact g5
            replace hS := Lib.hid hS
            have hc1 := hcc (w3.alloc (.cells #[.slice aa U.length ac, .slice ba V.length bc] 35)).drew w3.heap.size (below_alloc (Below.refl _ _) _ (Nat.le_refl _)).drew ((Blk.new w3 _ _).cell 0) ((Blk.new w3 _ _).cell 1)
            obtain ⟨m1, m2, m3, m4⟩ := two_new w3 #[.slice aa U.length ac, .slice ba V.length bc] #[.int .i64 0, .slice none 0 0] 35 96
            have hc2 := hcc _ w3.heap.size m3 (m1.cell 0) (m1.cell 1)
            obtain ⟨p1, p2, p3, p4⟩ := two_new w3 #[.int .i64 0, .slice none 0 0] #[.slice aa U.length ac, .slice ba V.length bc] 96 35
            have hc3 := hcc _ (w3.heap.size + 1) p3 (p2.cell 0) (p2.cell 1)
            replace hc1 := Lib.hid hc1
            replace hc2 := Lib.hid hc2
            replace hc3 := Lib.hid hc3
            clear hcc
            obtain ⟨s, hs⟩ : ∃ s, A + D = s := ⟨_, rfl⟩
            have hsI : (A : Int) + (D : Int) = (s : Int) := by omega
            have hsI2 : (s : Int) ≤ 687194767360 := by omega
            have hsw : IntKind.i64.wrap (s : Int) = (s : Int) := by rw [IntKind.wrap_i64]; omega
            rw [hs] at hG2
            replace hs := Lib.hid hs
            have hAlt := hA.lt
            have hBlt := hB.lt
            have hkeep2 : ∀ W, Below w3.heap.size w3 W → W.cell? ⟨ab, 0, none⟩ = some (.int .i64 (A : Nat)) ∧ W.cell? ⟨ab, 1, none⟩ = some (.slice aa U.length ac) ∧ W.cell? ⟨bb, 0, none⟩ = some (.int .i64 (D : Nat)) ∧ W.cell? ⟨bb, 1, none⟩ = some (.slice ba V.length bc) := fun W hW =>
              ⟨(hW.cell (p := ⟨ab, 0, none⟩) hAlt).trans (hA.cell 0), (hW.cell (p := ⟨ab, 1, none⟩) hAlt).trans (hA.cell 1), (hW.cell (p := ⟨bb, 0, none⟩) hBlt).trans (hB.cell 0), (hW.cell (p := ⟨bb, 1, none⟩) hBlt).trans (hB.cell 1)⟩
            have kp0 := fun W5 u v (h5 : Below w3.heap.size w3 W5) => hkeep2 _ ((h5.setCell (p := ⟨w3.heap.size, 0, none⟩) (Nat.le_refl _) u).setCell (p := ⟨w3.heap.size, 1, none⟩) (Nat.le_refl _) v)
            have kp1 := fun W5 u v (h5 : Below w3.heap.size w3 W5) => hkeep2 _ ((h5.setCell (p := ⟨w3.heap.size + 1, 0, none⟩) (Nat.le_succ _) u).setCell (p := ⟨w3.heap.size + 1, 1, none⟩) (Nat.le_succ _) v)
            replace kp0 := Lib.hid kp0
            replace kp1 := Lib.hid kp1
            replace hkeep2 := Lib.hid hkeep2
            clear hkeep e0 e1 e2 e3 hqlt hA hB
            go_wp2_with fail
            go_cut [11] (fun t11 W => ∃ cb sv sc, t11 = .pointer (some ⟨cb, 0, none⟩) ∧ Blk W cb #[.int .i64 (s : Nat), .slice sv S.length sc] 96 ∧ Nums W w3.heap.size (.slice sv S.length sc) S ∧ w3.heap.size ≤ cb ∧ Below w3.heap.size w3 W)
            case first =>
              go_region_held3 (fun W => W.cell? ⟨ab, 0, none⟩ = some (.int .i64 (A : Nat)) ∧ W.cell? ⟨ab, 1, none⟩ = some (.slice aa U.length ac) ∧ W.cell? ⟨bb, 0, none⟩ = some (.int .i64 (D : Nat)) ∧ W.cell? ⟨bb, 1, none⟩ = some (.slice ba V.length bc)) (first | exact kp0.out _ _ _ hb5 | exact kp1.out _ _ _ hb5 | (refine hkeep2.out _ ?_; repeat (first | exact Below.refl _ _ | assumption | refine Below.drew ?_ | refine below_alloc ?_ _ (Nat.le_refl _)))) (first
                | (go_at_call 66; (with_reducible show Calls _ _ _ (World.drew (World.alloc w3 (.cells #[.slice aa U.length ac, .slice ba V.length bc] 35))) _); refine hc1.out.mono ?_; rintro e w5 ⟨av, cv, rfl, hN5, hb5, -⟩)
                | (go_at_call 66; (with_reducible show Calls _ _ _ (World.drew (World.alloc (World.alloc w3 (.cells #[.slice aa U.length ac, .slice ba V.length bc] 35)) (.cells #[.int .i64 0, .slice none 0 0] 96))) _); refine hc2.out.mono ?_; rintro e w5 ⟨av, cv, rfl, hN5, hb5, hb6⟩; have hT := m2.below hb6 m2.lt; have t0 := hT.cell 0; have t1 := hT.cell 1; have f0 := hT.free 0 none; have f1 := hT.free 1 none)
                | (go_at_call 66; (with_reducible show Calls _ _ _ (World.drew (World.alloc (World.alloc w3 (.cells #[.int .i64 0, .slice none 0 0] 96)) (.cells #[.slice aa U.length ac, .slice ba V.length bc] 35))) _); refine hc3.out.mono ?_; rintro e w5 ⟨av, cv, rfl, hN5, hb5, hb6⟩; have hT := p1.below hb6 p1.lt; have t0 := hT.cell 0; have t1 := hT.cell 1; have f0 := hT.free 0 none; have f1 := hT.free 1 none))
              all_goals go_wp2_with fail
              all_goals go_meet
              · obtain ⟨h1, h2, h3, h4⟩ := both_new (s := s) hb5 hN5
                exact ⟨_, av, cv, rfl, h1, h2, h3, h4⟩
              · obtain ⟨h1, h2, h3⟩ := both_set (s := s) hb5 hN5 hT (by omega)
                exact ⟨_, av, cv, rfl, h1, h2, by omega, h3⟩
              · obtain ⟨h1, h2, h3⟩ := both_set (s := s) hb5 hN5 hT (by omega)
                exact ⟨_, av, cv, rfl, h1, h2, by omega, h3⟩
            case rest =>
              obtain ⟨cb, sv, sc, rfl, hT, hS5, gcb, hbl2⟩ := hcut
              obtain ⟨w4, hw4⟩ : ∃ x, x = wc := ⟨_, rfl⟩
              subst hw4
              have hb4 := hbl.trans (hbl2.mono hs1)
              have hs4 := hb4.size
              have hs0 := hbt.size
              have hO4 := hO.below hb4
              have hbt4 : ButOf (fun x => x = g) w w4 := hbt.trans (ButOf.of_below hb4)
              have hV4 := own_below hV hb4
              have hN4 := hNr.below hb4
              have hS4 := hS5.mono (show w.heap.size ≤ w3.heap.size by omega)
              have c1 := hT.cell 1
              have hSlI : (S.length : Int) ≤ 320 := by omega
              clear hc1 hc2 hc3 m1 m2 m3 m4 p1 p2 p3 p4 kp0 kp1 hkeep2 hNa hNb hO hbt hV hNr hS5 hbl hbl2 hqb hsI
              simp only [List.getElem?_toArray, List.getElem?_cons_zero, List.getElem?_cons_succ] at c1
              go_wp2_with fail
              go_loopw [56] (fun v wr => ∃ j : Nat, j ≤ S.length ∧ v = .int .i64 (j : Nat) ∧ Nums wr Bo (.slice (some ⟨g, 0, none⟩) n c) (bump O (S.take j)) ∧ ButOf (fun x => x = g) w4 wr) (fun v _ => S.length - (intOf v).toNat)
              case atStart => exact ⟨0, Nat.zero_le _, rfl, hO4, ButOf.refl _ _⟩
              case round =>
                obtain ⟨j, hj, rfl, hF, hB⟩ := hrel
                by_cases hlt3 : j < S.length
                · have hltI3 : (j : Int) < (S.length : Int) := by omega
                  obtain ⟨rs, rfl, cs1⟩ := (hS4.but hB (fun x hx e => by have := (World.ownsRow.lt hS4 _ hx).1; omega)).cell (j := j) hlt3
                  replace cs1 : wr.cell? ⟨rs, j, none⟩ = some (.int .i64 (S.getD j 0 : Nat)) := cs1
                  have hbn := bump_next (O := O) hlt3
                  have hxm : S.getD j 0 ∈ S := n_getD_mem hlt3
                  obtain ⟨hx1, hx2⟩ := g4 _ hxm
                  have hfl : (bump O (S.take j)).length = n := by rw [bump_length, hOl]
                  have hfy : (bump O (S.take j)).getD (S.getD j 0) 0 ≤ 321 := by
                    rw [bump_getD _ _ _ (List.Sublist.nodup (List.take_sublist _ _) g3) (fun x hx => by rw [hOl]; exact (g4 x (List.mem_of_mem_take hx)).1)]
                    split <;> omega
                  generalize S.getD j 0 = x at *
                  generalize bump O (S.take j) = F at *
                  have hxI : (x : Int) < (n : Int) := by omega
                  have cx := hF.at_ (k := x) (by omega)
                  obtain ⟨cs2, hblk⟩ := hF.sput
                  have f1 := hblk.free x none
                  have hF1 := hF.set (k := x) (by omega) (F.getD x 0 + 1)
                  rw [← hbn] at hF1
                  have hB1 := hB.set (b := g) (o := x) (.int .i64 ((F.getD x 0 + 1 : Nat) : Int)) (.inl rfl)
                  generalize F.getD x 0 = y at *
                  have hyI : (y : Int) ≤ 321 := by omega
                  rw [Int.natCast_add, show ((1 : Nat) : Int) = 1 from rfl] at hF1 hB1
                  replace hbn := Lib.hid hbn
                  clear hblk hF hB hfy hfl
                  go_wp2_with fail
                  go_roundw
                  case rel => exact ⟨j + 1, by omega, by go_num, hF1, hB1⟩
                  case measure => simp [intOf]; omega
                · obtain rfl : j = S.length := by omega
                  rw [List.take_length] at hF
                  obtain ⟨w5, hw5⟩ : ∃ x, x = wr := ⟨_, rfl⟩
                  subst hw5
                  have hM : ∀ aq, Cs w5 aq r.length (cq - 2) ys → Place w w5 Bo g n c cb s sv sc aq r.length (cq - 2) S (bump O S) ys r := fun aq hcs =>
                    ⟨hT.but hB (by omega), hS4.but hB (fun x hx e => by have := (World.ownsRow.lt hS4 _ hx).1; omega), hcs, hN4.but hB hgw0, hF, hbt4.trans hB⟩
                  have hV5 := own_but hV4 hB (fun x hx e => by have := (World.ownsRow.lt hV4 _ hx).1; omega)
                  have hcs := (Cs.of_own hV5 (by
                    intro u hu
                    rcases List.mem_cons.1 hu with rfl | hu
                    · rfl
                    · rcases List.mem_cons.1 hu with rfl | hu
                      · rfl
                      · rcases List.mem_cons.1 hu with rfl | hu
                        · rfl
                        · rcases List.mem_cons.1 hu with rfl | hu
                          · rfl
                          · exact hN4.one u hu)).drop (by omega)
                  obtain ⟨rl, hrl⟩ : ∃ rl, r.length = rl := ⟨_, rfl⟩
                  rw [show l2 - 2 = rl by omega] at hcs
                  rw [hrl] at hM
                  have hcs2 : Cs w5 (if cq = 2 then some ⟨q, 0, none⟩ else some ⟨q, 4, none⟩) rl (cq - 2) ys := hcs
                  have hMid := Lib.hid (hM _ hcs2)
                  have h2I : (2 : Int) ≤ (l2 : Int) := by omega
                  have h2I2 : (2 : Int) ≤ (cq : Int) := by omega
                  have h2N : 2 ≤ l2 := by omega
                  have h2N2 : 2 ≤ cq := by omega
                  have hl4 : l2 - 2 = rl := by omega
                  have hrl320 : rl ≤ 320 := by omega
                  have hrlI : (rl : Int) ≤ 320 := by omega
                  replace hrl := Lib.hid hrl
                  clear hF hB hM hcs hcs2 hO4 hbt4 hV4 hV5 hN4 hS4 hb4 c1 hT g3 g4
                  go_upto_region 14 with fail
                  go_cut [6] (fun t6 W => ∃ aq cq2, t6 = .slice aq rl cq2 ∧ rl ≤ cq2 ∧ Hid (Place w W Bo g n c cb s sv sc aq rl cq2 S (bump O S) ys r))
                  case first =>
                    by_cases hc2 : cq = 2
                    · subst hc2
                      go_wp2_with fail
                      go_meet
                      exact ⟨_, _, rfl, hMid.out.cs.cap, hMid⟩
                    · rw [if_neg hc2] at hMid
                      go_wp2_with fail
                      go_meet
                      exact ⟨_, _, rfl, hMid.out.cs.cap, hMid⟩
                  case rest =>
                    clear hMid h2I h2I2 h2N h2N2 hl4 hq1 hq2 hq3 hlv
                    obtain ⟨aq, cq2, rfl, hcq2, hMid⟩ := hcut
                    have hcq2I : (rl : Int) ≤ (cq2 : Int) := by omega
                    go_wp2_with fail
                    go_loopw [14] (fun v wr => ∃ i : Nat, i ≤ rl ∧ v = .int .i64 (i : Nat) ∧ Hid (∀ j, j < i → ndc r j ≤ s) ∧ Hid (Place w wr Bo g n c cb s sv sc aq rl cq2 S (bump O S) ys r)) (fun v _ => rl - (intOf v).toNat)
                    case atStart => exact ⟨0, Nat.zero_le _, rfl, Lib.hid (fun j hj => by omega), hMid⟩
                    case round =>
                      clear hMid
                      obtain ⟨i, hi, rfl, hle, hMid⟩ := hrel
                      obtain ⟨w7, hw7⟩ : ∃ x, x = wr := ⟨_, rfl⟩
                      subst hw7
                      have hT := hMid.out.both
                      have c0 := hT.cell 0
                      have c1 := hT.cell 1
                      simp only [List.getElem?_toArray, List.getElem?_cons_zero, List.getElem?_cons_succ] at c0 c1
                      have hiI : (i : Int) ≤ (rl : Int) := by omega
                      go_upto_region 16 with fail
                      go_cut [82] (fun t W => t = .bool (decide (i < rl ∧ ndc r i ≤ s)) ∧ ∃ m, W = w7.drewN m)
                      case first =>
                        by_cases hlt4 : i < rl
                        · have hlt4I : (i : Int) < (rl : Int) := by omega
                          obtain ⟨bq, oq, rfl, cq1⟩ := hMid.out.at_ (i := i) (by have := hrl.out; omega)
                          obtain ⟨x, hx⟩ : ∃ x, ndc r i = x := ⟨_, rfl⟩
                          rw [hx] at cq1
                          replace hx := Lib.hid hx
                          by_cases hxs : x ≤ s
                          · have hxsI : (x : Int) ≤ (s : Int) := by omega
                            have hxsB : decide ((x : Int) ≤ (s : Int)) = true := decide_eq_true hxsI
                            have hfin := Lib.hid (congrArg Value.bool (decide_eq_true (p := i < rl ∧ ndc r i ≤ s) ⟨hlt4, by rw [hx.out]; exact hxs⟩).symm)
                            clear hxs
                            go_quiet (fail)
                            go_wp2_with fail
                            go_meet
                            exact ⟨hfin.out, _, rfl⟩
                          · have hxsI : ¬ ((x : Int) ≤ (s : Int)) := by omega
                            have hxsB : decide ((x : Int) ≤ (s : Int)) = false := decide_eq_false hxsI
                            have hfin := Lib.hid (congrArg Value.bool (decide_eq_false (p := i < rl ∧ ndc r i ≤ s) (fun e => by have := e.2; rw [hx.out] at this; exact hxs this)).symm)
                            clear hxs
                            go_quiet (fail)
                            go_wp2_with fail
                            go_meet
                            exact ⟨hfin.out, _, rfl⟩
                        · have hlt4I : ¬ ((i : Int) < (rl : Int)) := by omega
                          have hlt4B : decide ((i : Int) < (rl : Int)) = false := decide_eq_false hlt4I
                          have hfin := Lib.hid (congrArg Value.bool (decide_eq_false (p := i < rl ∧ ndc r i ≤ s) (fun e => hlt4 e.1)).symm)
                          go_quiet (fail)
                          go_wp2_with fail
                          go_meet
                          exact ⟨hfin.out, _, rfl⟩
                      case rest =>
                        obtain ⟨rfl, mm, rfl⟩ := hcut
                        have hMid2 := hMid.out.below (below_drewN (Below.refl _ _) mm)
                        clear hMid hT c0 c1
                        generalize w7.drewN mm = w8 at *
                        by_cases hgo : i < rl ∧ ndc r i ≤ s
                        · have hgd : decide (i < rl ∧ ndc r i ≤ s) = true := decide_eq_true hgo
                          have hnx : Hid (∀ j, j < i + 1 → ndc r j ≤ s) := Lib.hid (fun j hj => by
                            by_cases e : j = i
                            · rw [e]; exact hgo.2
                            · exact hle.out j (by omega))
                          have hi1 : i + 1 ≤ rl := hgo.1
                          rw [hgd]
                          replace hMid2 := Lib.hid hMid2
                          clear hgo hgd
                          go_wp2_with fail
                          go_roundw
                          case rel => exact ⟨i + 1, by omega, by go_num, hnx, hMid2⟩
                          case measure => simp [intOf]; omega
                        · have hgd : decide (i < rl ∧ ndc r i ≤ s) = false := decide_eq_false hgo
                          have hend : i = r.length ∨ s < ndc r i := by
                            by_cases e : i < rl
                            · exact .inr (by have := fun h => hgo ⟨e, h⟩; omega)
                            · exact .inl (by have := hrl.out; omega)
                          rw [hgd]
                          have hT := hMid2.both
                          have hTl := hT.lt
                          have c0 := hT.cell 0
                          have c1 := hT.cell 1
                          simp only [List.getElem?_toArray, List.getElem?_cons_zero, List.getElem?_cons_succ] at c0 c1
                          have hkeep3 := Lib.hid (fun W (hW : Below w8.heap.size w8 W) => And.intro ((hW.cell (p := ⟨cb, 0, none⟩) hTl).trans c0) ((hW.cell (p := ⟨cb, 1, none⟩) hTl).trans c1))
                          have hcl1 := Lib.hid (hMid2.clone hrl320 (Below.refl _ _).drew)
                          have hcl2 := Lib.hid (hMid2.clone2 hrl320 (.cells #[.int .i64 (s : Nat), .slice sv S.length sc] 96))
                          have hi1 := Lib.hid (fun w9 av cv => hMid2.ins1 hrl320 hi (w9 := w9) (av := av) (cv := cv))
                          have hi2 := Lib.hid (fun w9 av cv => hMid2.ins2 hrl320 hi (w9 := w9) (av := av) (cv := cv))
                          have hil := insN_length (s, S) r
                          rw [hrl.out] at hil
                          have hfin := Lib.hid (fun w9 (hb9 : Below w8.heap.size w8 w9) => (And.intro (hMid2.done hb9 (by rw [hrl.out]; exact hi) hle.out hend) (And.intro (hMid2.out.below hb9) (hMid2.but.trans (ButOf.of_below hb9)))))
                          have hgood : Hid (Good (fun s => L.getD s 0) k Z (insN (s, S) r) (bump O S) ∧ bestO (insN (s, S) r).length (insN (s, S) r) (bump O S) = R ∧ (bump O S).length = n) := Lib.hid ⟨hG2.out, by
                            have e2 : bestO (r.length + 1) (insN (A + D, U ++ V) r) (bump O (U ++ V)) = R := hR.out
                            rw [hs.out, hS.out] at e2
                            rw [insN_length]
                            exact e2, by rw [bump_length, hOl]⟩
                          replace hil := Lib.hid hil
                          clear hgo hgd hend hT hMid2 hle
                          go_wp2_with fail
                          go_region_held3 (fun W => W.cell? ⟨cb, 0, none⟩ = some (.int .i64 (s : Nat)) ∧ W.cell? ⟨cb, 1, none⟩ = some (.slice sv S.length sc)) (first | exact hkeep3.out _ hb10 | exact hkeep3.out _ hb9' | (refine hkeep3.out _ ?_; repeat (first | exact Below.refl _ _ | assumption | refine Below.drew ?_ | refine below_alloc ?_ _ (Nat.le_refl _)))) (first
                            | (go_at_call 68; (with_reducible show Calls _ _ _ (World.drew w8) _); refine hcl1.out.mono ?_; rintro e w9 ⟨av, cv, rfl, ho9, hb9⟩; have hb9' := below_of_drew hb9; have hI := Lib.hid (hi1.out _ _ _ ho9 hb9'))
                            | (go_at_call 68; (with_reducible show Calls _ _ _ (World.drew (World.alloc w8 _)) _); refine hcl2.out.mono ?_; rintro e w9 ⟨av, cv, rfl, ho9, hb9, hb9'⟩; have hI := Lib.hid (hi2.out _ _ _ ho9 hb9))
                            | (go_at_call 67; refine hI.out.mono ?_; rintro e w10 ⟨a2, c2, rfl, ho10, hb10⟩))
                          all_goals go_wp2_with fail
                          all_goals go_roundw
                          all_goals first
                            | (show rl + 1 < l2; have := hrl.out; omega)
                            | (obtain ⟨f1, f2, f3⟩ := hfin.out _ hb10; exact ⟨insN (s, S) r, _, bump O S, rl + 1, Lib.hid hil.out, ho10, f1, f2, f3, hgood⟩)
        · obtain ⟨av, cv, rfl⟩ := own_formN hV
          have hltI : ¬ ((1 : Int) < (l2 : Int)) := by omega
          have hfin : R = O := by
            obtain ⟨_, e, _⟩ := hst.out
            rw [← e]
            have h9 : ¬ 1 < ns.length := by rw [hl2.out]; exact hlt2
            match ns, h9 with
            | [], _ => rfl
            | [_], _ => rfl
            | _ :: _ :: _, h => exact absurd (by simp) h
          subst hfin
          clear hst hN hV
          go_wp2_with fail
          go_end0
          exact ⟨rfl, hO, hbt⟩
end Go.Proofs.Ytdfoimgckahjpaa
