/-
  The walk of HuffWhole. No conditions.
-/
import Derived.Test.YtdfoimgckahjpaaLensLaw
import Derived.Test.YtdfoimgckahjpaaHuffBack
namespace Go.Proofs.Ytdfoimgckahjpaa
open Go.RowKit
theorem bump_count : ∀ (S O : List Nat) (s : Nat), (∀ x, x ∈ S → x < O.length) → (bump O S).getD s 0 = O.getD s 0 + S.count s
  | [], O, s, _ => by rw [bump, List.count_nil, Nat.add_zero]
  | x :: t, O, s, h => by
    rw [bump, bump_count t _ s (fun y hy => by rw [List.length_set]; exact h y (List.mem_cons_of_mem _ hy)), getD_set_n (h x (List.mem_cons_self ..)), List.count_cons]
    by_cases e : s = x
    · subst e
      rw [if_pos rfl]; simp; omega
    · have e2 : ¬ x = s := fun h => e h.symm
      rw [if_neg e]; simp [e2]
/-- bytes as numbers -/
def nums (l : List UInt8) : List Nat := l.map UInt8.toNat
theorem nums_length (l : List UInt8) : (nums l).length = l.length := by simp [nums]
theorem nums_getD {l : List UInt8} {j : Nat} (h : j < l.length) : (nums l).getD j 0 = (l.getD j 0).toNat := by
  simp [nums, List.getD_eq_getElem?_getD, List.getElem?_eq_getElem h]
theorem nums_lt {l : List UInt8} {s : Nat} (h : s ∈ nums l) : s < 256 := by
  obtain ⟨u, _, rfl⟩ := List.mem_map.1 h
  exact u.toNat_lt
/-- all that HuffWhole holds, side by side -/
structure HWh (w0 w : World) (b rb : Nat) (L : List Nat) (a : Option Addr) (c : Nat) (l : List UInt8) (p : Nat) : Prop where
  t : Tb w b L
  r : Rd w rb a c false l p
  g : w0.heap.size ≤ rb
  hb : Below w0.heap.size w0 w
section
variable {w0 w w' : World} {b rb : Nat} {L : List Nat} {a : Option Addr} {c : Nat} {l : List UInt8} {p p' : Nat}
theorem HWh.step (h : HWh w0 w b rb L a c l p) (hr : Rd w' rb a c false l p') (hg : w.grownBy w' (some rb)) : HWh w0 w' b rb L a c l p' :=
  ⟨h.t.grown h.r.blk (by decide) (by decide) hg, hr, h.g, below_grow h.hb hg h.hb.size h.g⟩
end
theorem wholelaw_big {a1 : Option Addr} {n1 c1 : Nat} {w : World} (h : 500 < n1) (hn1 : n1 ≤ 9223372036854775807) :
    Calls Try.prog 14 #[.slice a1 n1 c1] w fun e w' => e = .returned (.bool true) ∧ Below w.heap.size w w' := by
  have hI : (500 : Int) < (n1 : Int) := by omega
  go_enter Try.func14, Try.ntmps14
  go_wp2_with (go_at_call 19; refine (awake_any _).mono ?_; rintro e w1 ⟨rfl, hb⟩)
  go_ret
  exact ⟨rfl, hb⟩
set_option maxRecDepth 100000 in
set_option maxHeartbeats 8000000 in
theorem wholelaw_in {a1 : Option Addr} {n1 c1 : Nat} {l : List UInt8} {w : World} (hB : Bts w a1 n1 c1 l) (h1 : n1 ≤ 500) :
    Calls Try.prog 14 #[.slice a1 n1 c1] w fun e w' => e = .returned (.bool true) ∧ Below w.heap.size w w' := by
  have hln := hB.len
  have h1I : (n1 : Int) ≤ 500 := by omega
  obtain ⟨i0, hi, hz0, hz1, hz2⟩ := info_parts info_int
  have hmk : ∀ W, (Instr.makeSlice 35 (.int .i64 256) (.int .i64 256)).run Try.prog W = .ok (.slice (some ⟨W.heap.size, 0, none⟩) 256 256) (W.alloc (.cells (mkZ 256) 3)) := fun W => run_mkZ (P := Try.prog) (t := 35) (e := 3) Try.underlying35 hi hz0 hz1 hz2 256 (by omega) W
  have hi' := Lib.hid hi
  clear hi
  have hSl := nums_length l
  rw [hln] at hSl
  have hSg := fun j (hj : j < n1) => nums_getD (l := l) (j := j) (by omega)
  have hSm := fun j (hj : j < n1) => n_getD_mem (l := nums l) (k := j) (by omega)
  have hS256 := fun s (hs : s ∈ nums l) => nums_lt hs
  have hbn := fun j (hj : j < n1) => bump_next (S := nums l) (O := List.replicate 256 0) (j := j) (by omega)
  have hbc := fun (k s : Nat) => bump_count ((nums l).take k) (List.replicate 256 0) s (fun x hx => by rw [List.length_replicate]; exact hS256 x (List.mem_of_mem_take hx))
  have hbl := fun k => bump_length ((nums l).take k) (List.replicate 256 0)
  generalize nums l = S at *
  replace hSl := Lib.hid hSl
  replace hln := Lib.hid hln
  replace hSg := Lib.hid hSg
  replace hSm := Lib.hid hSm
  replace hS256 := Lib.hid hS256
  replace hbn := Lib.hid hbn
  replace hbc := Lib.hid hbc
  replace hbl := Lib.hid hbl
  go_enter Try.func14, Try.ntmps14
  go_wp2_with (go_at_call 19; refine (awake_any _).mono ?_; rintro e w1 ⟨rfl, hb⟩)
  have hC0 : Nums (w1.alloc (.cells (mkZ 256) 3)) w.heap.size (.slice (some ⟨w1.heap.size, 0, none⟩) 256 256) (List.replicate 256 0) := by
    have n1 := Blk.new w1 (mkZ 256) 3
    rw [mkZ_map] at n1
    rw [mkZ_map]
    exact Nums.of_blk n1 hb.size List.length_replicate (by omega)
  have hb2 := below_alloc hb (.cells (mkZ 256) 3) (Nat.le_refl _)
  have hs1 := hb.size
  go_wp2_with fail
  go_loopw [4] (fun v wr => ∃ k : Nat, k ≤ n1 ∧ v = .int .i64 (k : Nat) ∧ Nums wr w.heap.size (.slice (some ⟨w1.heap.size, 0, none⟩) 256 256) (bump (List.replicate 256 0) (S.take k)) ∧ Below w.heap.size w wr) (fun v _ => n1 - (intOf v).toNat)
  case atStart => exact ⟨0, Nat.zero_le _, rfl, hC0, hb2⟩
  case round =>
    clear hC0 hb2 hb
    obtain ⟨k, hk, rfl, hC, hb⟩ := hrel
    by_cases hlt : k < n1
    · have hltI : (k : Int) < (n1 : Int) := by omega
      obtain ⟨b1, o1, rfl, g1⟩ := hB.cell k hlt
      replace g1 := (hb.cell (p := ⟨b1, o1 + k, none⟩) (World.block_lt_of_cell? _ _ g1)).trans g1
      have hbn2 := hbn.out k hlt
      rw [hSg.out k hlt] at hbn2
      have hx := hS256.out _ (hSm.out k hlt)
      rw [hSg.out k hlt] at hx
      have hy := hbc.out k ((l.getD k 0).toNat)
      have hyl := hbl.out k
      rw [getD_zeros, Nat.zero_add] at hy
      have hyc := List.count_le_length (a := (l.getD k 0).toNat) (l := S.take k)
      rw [List.length_take, ← hy] at hyc
      rw [List.length_replicate] at hyl
      generalize (l.getD k 0).toNat = x at *
      generalize bump (List.replicate 256 0) (S.take k) = F at *
      have cx := hC.at_ (k := x) (by omega)
      obtain ⟨cs2, hblk⟩ := hC.sput
      have f1 := hblk.free x none
      have hC1 := hC.set (k := x) (by omega) (F.getD x 0 + 1)
      rw [← hbn2] at hC1
      have hb1 := hb.setCell (p := ⟨w1.heap.size, x, none⟩) hs1 (.int .i64 ((F.getD x 0 + 1 : Nat) : Int))
      clear hy
      generalize F.getD x 0 = y at *
      have hxI : (x : Int) < 256 := by omega
      have hyI : (y : Int) ≤ 500 := by omega
      rw [Int.natCast_add, show ((1 : Nat) : Int) = 1 from rfl] at hC1 hb1
      replace hbn2 := Lib.hid hbn2
      clear hblk hC hb hyc hyl
      go_wp2_with fail
      go_roundw
      case rel => exact ⟨k + 1, by omega, by go_num, hC1, hb1⟩
      case measure => simp [intOf]; omega
    · obtain rfl : k = n1 := by omega
      have hCc : ∀ s, (bump (List.replicate 256 0) S).getD s 0 = S.count s := fun s => by
        have := hbc.out k s
        rwa [List.take_of_length_le (by rw [hSl.out]; exact Nat.le_refl _), getD_zeros, Nat.zero_add] at this
      have hCl : (bump (List.replicate 256 0) S).length = 256 := by rw [bump_length, List.length_replicate]
      rw [List.take_of_length_le (by rw [hSl.out]; exact Nat.le_refl _)] at hC
      generalize bump (List.replicate 256 0) S = C at *
      have hC30 : ∀ x, x ∈ C → x ≤ 500 := fun x hx => by
        obtain ⟨i, hi, rfl⟩ := List.getElem_of_mem hx
        have h9 := hCc i
        rw [List.getD_eq_getElem?_getD, List.getElem?_eq_getElem hi] at h9
        simp only [Option.getD_some] at h9
        rw [h9]
        have := List.count_le_length (a := i) (l := S)
        rw [hSl.out] at this
        omega
      have hlens := Lib.hid (lens_any (most := 15) hC.zs (by omega) (by omega))
      replace hCl := Lib.hid hCl
      replace hCc := Lib.hid hCc
      clear hbn hbc hbl hC hmk
      go_wp2_with fail
      refine hlens.out.mono ?_
      rintro e w2 ⟨hb2, ⟨hbad, rfl⟩ | ⟨M, R, mo, g, e1, e2, _, _, _, _, _, hR, rfl, hNR⟩⟩
      · exfalso
        have h9 := lensBad_many hbad (mo := 15) rfl (by omega) (by omega) (fun x hx => by have := hC30 x hx; omega) (by rw [hCl.out]; omega)
        have := manyC_le C
        rw [hCl.out] at this
        omega
      · obtain rfl := ints_inj e1
        obtain rfl : 15 = mo := by omega
        rw [hCl.out] at hNR ⊢
        have hRl : R.length = 256 := by rw [hR.len, hCl.out]
        have hR15 : ∀ x, x ∈ R → x ≤ 15 := le_of_getD hR.most
        have hb3 := hb.trans (hb2.mono hb.size)
        have hs2 := hb2.size
        have hin : ∀ s, s ∈ S → s < R.length ∧ 0 < R.getD s 0 := fun s hs => by
          have h9 := hS256.out s hs
          refine ⟨by rw [hRl]; exact h9, (hR.pos s (by rw [hCl.out]; exact h9)).2 ?_⟩
          rw [hCc.out]
          exact List.count_pos_iff.2 hs
        have hwh := hR.whole
        have hmost := hR.most
        replace hRl := Lib.hid hRl
        clear hlens hb hb2 hR hC30 e1 e2
        go_wp2_with fail
        refine (new_any hNR.zs (by omega)).mono ?_
        intro e w3 hN
        obtain ⟨hb4, hf | ⟨_, tb, rfl, gb, hT⟩⟩ := hN.of (by rw [hRl.out]; omega) hR15
        · rw [hwh] at hf; cases hf.1
        · have hb5 := hb3.trans (hb4.mono hb3.size)
          have hNR3 := hNR.below hb4
          have hs3 := hb5.size
          replace hin := Lib.hid hin
          replace hmost := Lib.hid hmost
          clear hN hNR hb3 hb4 hwh hR15
          go_wp2_with fail
          go_loopw [9, 10, 11] (fun v9 v10 v11 wr => ∃ j x : Nat, j ≤ k ∧ v11 = .int .i64 (j : Nat) ∧ v10 = .int .i64 (x : Nat) ∧ Hid (x = (allBits R (S.take j)).length) ∧ x ≤ j * 15 ∧ Nums wr w3.heap.size v9 (S.take j) ∧ Below w3.heap.size w3 wr) (fun _ _ v11 _ => k - (intOf v11).toNat)
          case atStart => exact ⟨0, 0, Nat.zero_le _, rfl, rfl, Lib.hid rfl, by omega, Nums.nil _ _, Below.refl _ _⟩
          case round =>
            obtain ⟨j, x, hj, rfl, rfl, hxe, hx, hU, hbw⟩ := hrel
            obtain ⟨av, cv, rfl⟩ := hU.form
            have hxI : (x : Int) ≤ 7500 := by omega
            by_cases hlt2 : j < k
            · have hlt2I : (j : Int) < (k : Int) := by omega
              obtain ⟨b1, o1, rfl, g0⟩ := hB.cell j hlt2
              have hb1 := World.block_lt_of_cell? _ _ g0
              have hbw0 := hb5.trans (hbw.mono hs3)
              have g1 := (hbw0.cell (p := ⟨b1, o1 + j, none⟩) hb1).trans g0
              have hsg := hSg.out j hlt2
              have htk := take_snoc_n (l := S) (k := j) (by rw [hSl.out]; exact hlt2)
              have hx2 := hS256.out _ (hSm.out j hlt2)
              have hab := congrArg List.length (allBits_snoc R (S.take j) (S.getD j 0))
              rw [← htk, List.length_append, codeBits_length, ← hxe.out] at hab
              rw [hsg] at htk hx2 hab
              have hY := hmost.out (l.getD j 0).toNat
              have hg2 := hNR3.at_ (k := (l.getD j 0).toNat) (by rw [hRl.out]; exact hx2)
              generalize (l.getD j 0).toNat = z at *
              generalize R.getD z 0 = y at *
              have hzI : (z : Int) < 256 := by omega
              have hzI2 : (z : Int) ≤ 9223372036854775807 := by omega
              have hyI : (y : Int) ≤ 15 := by omega
              have hlen : (S.take j).length ≤ 500 := by rw [List.length_take]; omega
              have hU' : wr.ownsRow w3.heap.size 3 1 (.slice av (S.take j).length cv) (S.take j).length ((S.take j).map nv) := hU
              have hnx := Lib.hid hab.symm
              replace htk := Lib.hid htk
              have hsz := hbw.size
              clear hsg hab hxe hU hbw0
              generalize S.take j = U at *
              go_wp2_with (at_builtin; go_must (refine wp_app1_at rfl _ _ 35 rfl w3.heap.size 3 i0 _ 8 Try.underlying35 hi'.out hz0 hz1 hz2 rfl (.slice av U.length cv) U.length (U.map nv) rfl hU' (nv z) rfl rfl ?c1 ?c2 hsz ?_))
              case c1 => unfold maxLen; omega
              case c2 => omega
              intro v4 w4 ho4 hg4 _
              have hb6 := below_grown hbw hU' hg4 hsz
              have hU4 : Nums w4 w3.heap.size v4 (S.take (j + 1)) := by
                rw [htk.out]
                unfold Nums
                rw [List.length_append, List.map_append]
                exact ho4
              have g3 := ((hb5.trans (hb6.mono hs3)).cell (p := ⟨b1, o1 + j, none⟩) hb1).trans g0
              have g4 := (hb6.cell (p := ⟨g, z, none⟩) (World.block_lt_of_cell? _ _ hg2)).trans hg2
              clear hU' hg4 ho4 hbw g1
              go_wp2_with fail
              go_roundw
              case rel => exact ⟨j + 1, x + y, by omega, by go_num, by go_num, hnx, by omega, hU4, hb6⟩
              case measure => simp [intOf]; omega
            · obtain rfl : j = k := by omega
              have hSt : S.take j = S := List.take_of_length_le (by rw [hSl.out]; exact Nat.le_refl _)
              have hxe2 := hxe.out
              rw [hSt] at hU hxe2 ⊢
              have hb6 := hb5.trans (hbw.mono hs3)
              have hT2 := hT.below hbw
              have hBO := bitsOf_any hT2 hU hin.out (by rw [hSl.out]; omega)
              obtain ⟨lb, hlb⟩ : ∃ lb, packB false (allBits R S) = lb := ⟨_, rfl⟩
              have hlbl : lb.length = (x + 7) / 8 := by rw [← hlb, packB_length, ← hxe2]
              rw [hlb] at hBO
              have hlb1 : lb.length ≤ 140737488355328 := by omega
              have hlb2 : lb.length ≤ 1099511627776 := by omega
              obtain ⟨q, hq⟩ : ∃ q, lb.length = q := ⟨_, rfl⟩
              have hdiv : ((x : Int) + 7).tdiv 8 = (q : Int) := by rw [Int.tdiv_eq_ediv_of_nonneg (by omega)]; omega
              have hqI : (q : Int) ≤ 1000 := by omega
              replace hlbl := Lib.hid hlbl
              replace hlb := Lib.hid hlb
              replace hSt := Lib.hid hSt
              replace hBO := Lib.hid hBO
              have hul := hSl.out
              rw [hul]
              replace hul := Lib.hid hul
              clear hi' hz0 hz1 hz2 hNR3 hxe hxe2 hU hT hbw hx
              obtain ⟨w4, hw4⟩ : ∃ x, x = wr := ⟨_, rfl⟩
              subst hw4
              go_wp2_with fail
              rw [hul.out] at hBO
              refine hBO.out.mono ?_
              rintro e w5 ⟨a', c', rfl, ho, hb7⟩
              have hBt := own_bts ho hlb1
              have hb8 := hb6.trans (hb7.mono hb6.size)
              have hT5 := hT2.below hb7
              rw [hq] at hBt ⊢
              clear hBO ho hb7 hT2 hb6
              go_wp2_with fail
              refine (new_reader _ _ _ lb false _ hBt (by omega)).mono ?_
              rintro e w6 ⟨rb, a6, c6, rfl, hR6, hge, -, hb9⟩
              have hH : HWh w w6 tb rb R a6 c6 lb 0 := ⟨hT5.below hb9, hR6, by have := hb8.size; omega, hb8.trans (hb9.mono hb8.size)⟩
              clear hT5 hBt hb8 hb9 hR6 hge
              go_wp2_with fail
              go_loopw [15] (fun i W => ∃ p : Nat, p ≤ j ∧ i = .int .i64 (p : Nat) ∧ HWh w W tb rb R a6 c6 lb (allBits R (S.take p)).length) (fun i _ => j - (intOf i).toNat)
              case atStart => exact ⟨0, by omega, rfl, hH⟩
              case round =>
                clear hH
                obtain ⟨p, hp, rfl, hH⟩ := hrel
                by_cases hlt3 : p < j
                · have hsp := hSm.out p hlt3
                  obtain ⟨m1, m2⟩ := hin.out _ hsp
                  have hps : p < S.length := by rw [hSl.out]; exact hlt3
                  have hbk := back_tk hH.t.whole hH.t.le15 hps m1 m2
                  rw [hlb.out] at hbk
                  have htk := htake_any hH.t hH.r
                  rw [hbk] at htk
                  have hnext : (allBits R (S.take p)).length + R.getD (S.getD p 0) 0 = (allBits R (S.take (p + 1))).length := by
                    rw [take_snoc_n hps, allBits_snoc, List.length_append, codeBits_length]
                  have hsg := hSg.out p hlt3
                  obtain ⟨b1, o1, rfl, g0⟩ := hB.cell p hlt3
                  have g1 := (hH.hb.cell (p := ⟨b1, o1 + p, none⟩) (World.block_lt_of_cell? _ _ g0)).trans g0
                  have hx2 := hS256.out _ hsp
                  rw [hsg] at htk hnext hx2
                  generalize (l.getD p 0).toNat = z at *
                  have hzI : (z : Int) < 256 := by omega
                  replace hH := Lib.hid hH
                  replace hnext := Lib.hid hnext
                  replace htk := Lib.hid htk
                  clear hbk hsp m1 m2 hsg g1
                  go_wp2_with fail
                  refine htk.out.mono ?_
                  rintro e w7 ⟨rfl, hr1, hg1⟩
                  simp only at hr1
                  rw [hnext.out] at hr1
                  have hH2 := hH.out.step hr1 hg1
                  have g1 := (hH2.hb.cell (p := ⟨b1, o1 + p, none⟩) (World.block_lt_of_cell? _ _ g0)).trans g0
                  have hzz : ((z : Int) != (z : Int)) = false := by simp
                  clear htk hr1 hg1 hH g0
                  unfold nv
                  replace hH2 := Lib.hid hH2
                  go_wp2_with fail
                  go_roundw
                  case rel => exact ⟨p + 1, by omega, by go_num, hH2.out⟩
                  case measure => simp [intOf]; omega
                · obtain rfl : p = j := by omega
                  have hb9 := hH.hb
                  have hqq : ((q : Int) == (q : Int)) = true := by simp
                  clear hH
                  go_wp2_with fail
                  go_ret
                  exact ⟨rfl, hb9⟩
end Go.Proofs.Ytdfoimgckahjpaa
