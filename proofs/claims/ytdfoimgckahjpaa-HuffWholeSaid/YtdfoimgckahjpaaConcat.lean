/-
  slices.Grow of nil, slices.Concat of two rows. No conditions.
-/
import Derived.Test.YtdfoimgckahjpaaMay
import Derived.Lib.AppendZerosOnto
import Derived.Lib.SliceRun
namespace Go.Proofs.Ytdfoimgckahjpaa
open Go.RowKit
set_option maxRecDepth 100000 in
set_option maxHeartbeats 4000000 in
theorem grow_any {w : World} {n : Nat} (hn : n ≤ 100000) (h0 : 0 < n) :
    Calls Try.prog 70 #[.slice none 0 0, .int .i64 (n : Nat)] w fun e w' => ∃ v, e = .returned v ∧ Nums w' w.heap.size v [] ∧ Below w.heap.size w w' := by
  have hnI : (0 : Int) < (n : Int) := by omega
  have hnI2 : (n : Int) ≤ 100000 := by omega
  obtain ⟨i0, hi, hz0, hz1, hz2⟩ := info_parts info_int
  have hge := grownCap_ge w n 0 3
  have hmax := grownCap_le_maxLen w n 0 3 (by unfold maxLen; omega)
  have hrz : ∀ ty, (Builtin.append_ #[35, 3] ty #[.slice none 0 0, .int .i64 (n : Nat)]).run Try.prog w =
      .ok (.slice (some ⟨w.heap.size, 0, none⟩) n (grownCap w n 0 3)) (w.drew.alloc (.cells (#[] ++ Builtin.zeroCells (Value.int .i64 0).cells n ++ Builtin.zeroCells (Value.int .i64 0).cells (grownCap w n 0 3 - n)) 3)) := fun ty => by
    have h := Lib.run_append_grow_zeros w 35 3 ty 3 i0 _ .i64 .i64 Try.underlying35 Try.underlying3 hi hz0 none 0 0 [] (run_firstCells_none w.drew i0.size 0 0 0) n h0 (by omega) (by omega) (by omega) (by rw [hz2]; omega)
      (by rw [Nat.zero_add]; exact growslice_fits (by omega) (by rw [hz2]; omega))
    rw [Nat.zero_add] at h
    exact h
  obtain ⟨G, hG⟩ : ∃ G, grownCap w n 0 3 = G := ⟨_, rfl⟩
  rw [hG] at hrz hge hmax
  have hG63 : G ≤ 9223372036854775807 := by unfold maxLen at hmax; omega
  have hGI : (n : Int) ≤ (G : Int) := by omega
  have hGI2 : (G : Int) ≤ 9223372036854775807 := by omega
  obtain ⟨arr, harr⟩ : ∃ arr, (#[] ++ Builtin.zeroCells (Value.int .i64 0).cells n ++ Builtin.zeroCells (Value.int .i64 0).cells (G - n)) = arr := ⟨_, rfl⟩
  have hsz : arr.size = G := by rw [← harr]; simp only [Builtin.zeroCells, Array.size_append, List.size_toArray, List.length_nil, Nat.zero_add]; simp; rw [show (Value.int .i64 0).cells.size = 1 from rfl]; omega
  rw [harr] at hrz
  have hfin : Nums (w.drew.alloc (.cells arr 3)) w.heap.size (.slice (some ⟨w.heap.size, 0, none⟩) 0 G) [] := by
    have hb := Blk.new w.drew arr 3
    exact own_of_blk (n := 0) (c := G) (cs := arr.toList) (B := w.heap.size) hb (Nat.le_refl _) (Nat.zero_le _) hmax (by simpa using hsz)
  have hbl := below_alloc ((Below.refl w.heap.size w).drew) (.cells arr 3) (Nat.le_refl _)
  clear hi hmax hge hsz
  go_enter Try.func70, Try.ntmps70
  go_wp2_with (at_builtin; refine Lib.wpList_append_run _ rfl _ _ _ _ rfl _ _ rfl rfl _ _ (hrz _) ?_)
  all_goals go_ret
  exact ⟨_, rfl, hfin, hbl⟩
theorem Nums.zs {w : World} {B : Nat} {a : Option Addr} {n c : Nat} {l : List Nat} (h : Nums w B (.slice a n c) l) : Zs w a n c (ints l) := by
  have hn := h.len
  subst hn
  refine Zs.of_own (B := B) ?_
  rw [nv_zv]
  exact h
set_option maxRecDepth 100000 in
set_option maxHeartbeats 4000000 in
theorem concat_any {w : World} {sb c1 c2 : Nat} {a1 a2 : Option Addr} {U V : List Nat} (h0 : w.cell? ⟨sb, 0, none⟩ = some (.slice a1 U.length c1)) (h1 : w.cell? ⟨sb, 1, none⟩ = some (.slice a2 V.length c2)) (hU : Zs w a1 U.length c1 (ints U)) (hV : Zs w a2 V.length c2 (ints V)) (hn : U.length + V.length ≤ 1000) (hn0 : 0 < U.length + V.length) :
    Calls Try.prog 66 #[.slice (some ⟨sb, 0, none⟩) 2 2] w fun e w' => ∃ v, e = .returned v ∧ Nums w' w.heap.size v (U ++ V) ∧ Below w.heap.size w w' := by
  obtain ⟨i0, hi, hz0, hz1, hz2⟩ := info_parts info_int
  have hi' := Lib.hid hi; clear hi
  obtain ⟨u, hu⟩ : ∃ u, U.length = u := ⟨_, rfl⟩
  obtain ⟨v, hv⟩ : ∃ v, V.length = v := ⟨_, rfl⟩
  obtain ⟨s, hs⟩ : ∃ s, u + v = s := ⟨_, rfl⟩
  rw [hu] at h0 hU hn hn0
  rw [hv] at h1 hV hn hn0
  rw [hs] at hn hn0
  have huI : (u : Int) ≤ 1000 := by omega
  have hsI : (u : Int) + (v : Int) = (s : Int) := by omega
  have hsI2 : (s : Int) ≤ 1000 := by omega
  have hsI3 : ¬ ((s : Int) < 0) := by omega
  have hgr := Lib.hid (fun W => grow_any (w := W) (n := s) (by omega) hn0)
  obtain ⟨w0, hw0⟩ : ∃ x, x = w := ⟨_, rfl⟩
  rw [← hw0] at h0 h1 hU hV ⊢
  clear hw0
  go_enter Try.func66, Try.ntmps66
  go_wp2_with fail
  go_loopw [3, 11] (fun v3 v11 wr => ((v3 = .int .i64 0 ∧ v11 = .int .i64 0) ∨ (v3 = .int .i64 (u : Nat) ∧ v11 = .int .i64 1) ∨ (v3 = .int .i64 (s : Nat) ∧ v11 = .int .i64 2)) ∧ w0 = wr) (fun _ v11 _ => 2 - (intOf v11).toNat)
  case atStart => exact ⟨.inl ⟨rfl, rfl⟩, by first | rfl | trivial⟩
  case round =>
    obtain ⟨hc, hwr⟩ := hrel
    subst hwr
    rcases hc with ⟨rfl, rfl⟩ | ⟨rfl, rfl⟩ | ⟨rfl, rfl⟩
    · go_wp2_with fail
      go_roundw
      case rel => exact ⟨.inr (.inl ⟨rfl, rfl⟩), by first | rfl | trivial⟩
      case measure => simp [intOf]
    · go_wp2_with fail
      go_roundw
      case rel => exact ⟨.inr (.inr ⟨rfl, rfl⟩), by first | rfl | trivial⟩
      case measure => simp [intOf]
    · go_wp2_with (go_at_call 70; refine (hgr.out _).mono ?_; rintro e w5 ⟨nv0, rfl, hN5, hB5⟩)
      have hsb : sb < w0.heap.size := World.block_lt_of_cell? _ _ h0
      go_loopw [6, 27] (fun v6 v27 wr => ∃ R : List Nat, Nums wr w0.heap.size v6 R ∧ Below w0.heap.size w0 wr ∧ (([] = R ∧ v27 = .int .i64 0) ∨ (U = R ∧ v27 = .int .i64 1) ∨ (U ++ V = R ∧ v27 = .int .i64 2))) (fun _ v27 _ => 2 - (intOf v27).toNat)
      case atStart => exact ⟨[], hN5, hB5, .inl ⟨rfl, rfl⟩⟩
      case round =>
        clear hN5 hB5 hgr
        obtain ⟨R, hR, hb, hc⟩ := hrel
        have hsz := hb.size
        obtain ⟨av, cv, e6⟩ := hR.form
        obtain ⟨n1, hn1⟩ : ∃ n1, R.length = n1 := ⟨_, rfl⟩
        rw [hn1] at e6
        subst e6
        have hR' : wr.ownsRow w0.heap.size 3 1 (.slice av n1 cv) n1 (R.map nv) := by
          have h3 : wr.ownsRow w0.heap.size 3 1 (.slice av n1 cv) R.length (R.map nv) := hR
          rwa [hn1] at h3
        replace hn1 := Lib.hid hn1
        rcases hc with ⟨rfl, rfl⟩ | ⟨rfl, rfl⟩ | ⟨rfl, rfl⟩
        · have hle : n1 ≤ 1000 := by have h9 := hn1.out; rw [List.length_nil] at h9; omega
          have hz := hU.below hb (Nat.le_refl _)
          have hc := (hb.cell (p := ⟨sb, 0, none⟩) hsb).trans h0
          have hfin : ∀ v1 w1, w1.ownsRow w0.heap.size 3 1 v1 (n1 + u) (([] : List Nat).map nv ++ (ints U).map zv) → Nums w1 w0.heap.size v1 (U) := fun v1 w1 ho => by
            have h9 := hn1.out
            rw [nv_zv, ← List.map_append] at ho
            exact own_congr ho (by simp only [List.length_nil] at h9 ⊢; omega) (by rw [List.nil_append])
          replace hfin := Lib.hid hfin
          clear hR
          go_wp2_with (at_builtin; go_must (refine wp_appZ rfl _ _ 35 rfl w0.heap.size 3 i0 _ 8 Try.underlying35 hi'.out hz0 hz1 hz2 rfl (.slice av n1 cv) n1 (([] : List Nat).map nv) rfl hR' a1 u c1 (ints U) rfl hz ?c3 ?c4 hsz ?_))
          case c3 => unfold maxLen; omega
          case c4 => omega
          intro v1 w1 ho hg _
          have hb1 := below_grown hb hR' hg hsz
          have hN1 := hfin.out v1 w1 ho
          clear hR' hz hc ho hg hb hfin
          go_wp2_with fail
          go_roundw
          case rel => exact ⟨U, hN1, hb1, .inr (.inl ⟨rfl, rfl⟩)⟩
          case measure => simp [intOf]
        · have hle : n1 ≤ 1000 := by have h9 := hn1.out; omega
          have hz := hV.below hb (Nat.le_refl _)
          have hc := (hb.cell (p := ⟨sb, 1, none⟩) hsb).trans h1
          have hfin : ∀ v1 w1, w1.ownsRow w0.heap.size 3 1 v1 (n1 + v) (U.map nv ++ (ints V).map zv) → Nums w1 w0.heap.size v1 (U ++ V) := fun v1 w1 ho => by
            have h9 := hn1.out
            rw [nv_zv, ← List.map_append] at ho
            exact own_congr ho (by simp only [List.length_append]; omega) rfl
          replace hfin := Lib.hid hfin
          clear hR
          go_wp2_with (at_builtin; go_must (refine wp_appZ rfl _ _ 35 rfl w0.heap.size 3 i0 _ 8 Try.underlying35 hi'.out hz0 hz1 hz2 rfl (.slice av n1 cv) n1 (U.map nv) rfl hR' a2 v c2 (ints V) rfl hz ?c3 ?c4 hsz ?_))
          case c3 => unfold maxLen; omega
          case c4 => omega
          intro v1 w1 ho hg _
          have hb1 := below_grown hb hR' hg hsz
          have hN1 := hfin.out v1 w1 ho
          clear hR' hz hc ho hg hb hfin
          go_wp2_with fail
          go_roundw
          case rel => exact ⟨U ++ V, hN1, hb1, .inr (.inr ⟨rfl, rfl⟩)⟩
          case measure => simp [intOf]
        · go_wp2_with fail
          go_ret
          exact ⟨_, rfl, hR, hb⟩
end Go.Proofs.Ytdfoimgckahjpaa
