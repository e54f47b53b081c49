/-
  The walk of Lengths. No conditions.
-/
import Derived.Test.YtdfoimgckahjpaaBest
namespace Go.Proofs.Ytdfoimgckahjpaa
open Go.RowKit
/-- what is asked cannot be -/
def LensBad (l : List Int) (most : Int) : Prop :=
  320 < l.length ∨ most < 1 ∨ 15 < most ∨ (∃ x, x ∈ l ∧ (x < 0 ∨ 1073741824 < x)) ∨ ∃ (L : List Nat) (mo : Nat), l = ints L ∧ most = (mo : Int) ∧ 2 ^ mo < manyC L
/-- what Lengths answers -/
def LensAns (w : World) (l : List Int) (most : Int) (e : Ending) (w' : World) : Prop :=
  Below w.heap.size w w' ∧ ((LensBad l most ∧ e = .returned (.tuple #[.slice none 0 0, .int .i64 1])) ∨
    ∃ (L R : List Nat) (mo g : Nat), l = ints L ∧ most = (mo : Int) ∧ L.length ≤ 320 ∧ 1 ≤ mo ∧ mo ≤ 15 ∧ (∀ x, x ∈ L → x ≤ 1073741824) ∧ manyC L ≤ 2 ^ mo ∧ Lensed L mo R ∧
      e = .returned (.tuple #[.slice (some ⟨g, 0, none⟩) L.length L.length, .int .i64 0]) ∧ Nums w' w.heap.size (.slice (some ⟨g, 0, none⟩) L.length L.length) R)
theorem getD_le_all {L : List Nat} {q : Nat} (h : ∀ x, x ∈ L → x ≤ q) (s : Nat) : L.getD s 0 ≤ q := by
  rw [List.getD_eq_getElem?_getD]
  cases e : L[s]? with
  | none => exact Nat.zero_le _
  | some x => exact h x (List.mem_of_getElem? e)
set_option maxRecDepth 100000 in
set_option maxHeartbeats 8000000 in
theorem lens_any {w : World} {a : Option Addr} {n c : Nat} {l : List Int} {most : Int} (h : Zs w a n c l) (hmx : n ≤ 9223372036854775807) (hwf : -9223372036854775808 ≤ most ∧ most ≤ 9223372036854775807) :
    Calls Try.prog 48 #[.slice a n c, .int .i64 most] w (LensAns w l most) := by
  obtain ⟨i0, hi, hz0, hz1, hz2⟩ := info_parts info_int
  go_enter Try.func48, Try.ntmps48
  go_wp2_with fail
  refine (may_any h hmx hwf).mono ?_
  rintro e w1 ⟨hM, rfl⟩
  have hl := h.len
  rcases hM with ⟨rfl, hbad⟩ | ⟨L, mo, rfl, rfl, h320, hmo1, hmo2, hsm, hmany, rfl⟩
  · go_wp2_with fail
    go_ret2
    exact ⟨Below.refl _ _, .inl ⟨hbad, rfl⟩⟩
  · have hLn : L.length = n := by simpa [ints] using hl
    have hn320 : n ≤ 320 := by omega
    have hmk := fun W => run_mkZ (P := Try.prog) (t := 35) (e := 3) Try.underlying35 hi hz0 hz1 hz2 n (by omega) W
    have hused := Lib.hid (used_any h hn320 (getD_le_all hsm))
    clear hi hl h320
    go_wp2_with fail
    refine hused.out.mono ?_
    rintro e w2 ⟨v, Z, rfl, hN, hp, ha, hb⟩
    obtain ⟨la, lc, rfl⟩ := hN.form
    have hs2 := hb.size
    have hb3 := below_alloc hb (.cells (mkZ n) 3) (Nat.le_refl _)
    have hba := below_alloc (Below.refl w2.heap.size w2) (.cells (mkZ n) 3) (Nat.le_refl _)
    have hN3 := hN.below hba
    have hO3 : Nums (w2.alloc (.cells (mkZ n) 3)) w1.heap.size (.slice (some ⟨w2.heap.size, 0, none⟩) n n) (List.replicate n 0) := by
      have n1 := Blk.new w2 (mkZ n) 3
      rw [mkZ_map] at n1
      rw [mkZ_map]
      exact Nums.of_blk n1 hs2 List.length_replicate (by omega)
    have hC3 := h.below hb3 (Nat.le_refl _)
    have hge := own_ge hN
    have hs3 := alloc_size w2 (.cells (mkZ n) 3)
    have hzl : ∀ x, x ∈ Z → x < n := fun x hx => usedSyms_lt (hp.mem_iff.1 hx)
    have hd : Z.Nodup := hp.nodup_iff.2 (used_nodup L _)
    have hZl : Z.length ≤ 320 := by have := hp.length_eq; have := usedSyms_len L n; omega
    have hp2 : Z.Perm (usedSyms L L.length) := by rw [hLn]; exact hp
    have hzm : Z.length ≤ 2 ^ mo := by rw [hp2.length_eq, ← manyC_used]; exact hmany
    have hans : ∀ w' R, Below w1.heap.size w1 w' → Lensed L mo R → Nums w' w1.heap.size (.slice (some ⟨w2.heap.size, 0, none⟩) n n) R → LensAns w1 (ints L) mo (.returned (.tuple #[.slice (some ⟨w2.heap.size, 0, none⟩) n n, .int .i64 0])) w' := fun w' R k1 k2 k3 =>
      ⟨k1, .inr ⟨L, R, mo, w2.heap.size, rfl, rfl, by omega, hmo1, hmo2, hsm, hmany, k2, by rw [hLn], by rw [hLn]; exact k3⟩⟩
    replace hans := Lib.hid hans
    obtain ⟨m, hm⟩ : ∃ m, Z.length = m := ⟨_, rfl⟩
    have hmI : (m : Int) ≤ 320 := by omega
    have hmoI : (mo : Int) ≤ 15 := by omega
    by_cases h1 : m = 1
    · subst h1
      obtain ⟨s, rfl⟩ : ∃ s, Z = [s] := by
        match Z, hm with
        | [s], _ => exact ⟨s, rfl⟩
      have hsn := hzl s (List.mem_singleton.2 rfl)
      have hsI : (s : Int) < (n : Int) := by omega
      obtain ⟨r, rfl, cz⟩ := hN3.cell (j := 0) (by simp)
      replace cz : (w2.alloc (.cells (mkZ n) 3)).cell? ⟨r, 0, none⟩ = some (.int .i64 (s : Nat)) := cz
      have co := hO3.at_ (k := s) (by rw [List.length_replicate]; exact hsn)
      obtain ⟨cs1, hblk⟩ := hO3.sput
      have f1 := hblk.free s none
      have hO4 : Nums (w2.alloc (.cells ((mkZ n).setIfInBounds s (.int .i64 1)) 3)) w1.heap.size (.slice (some ⟨w2.heap.size, 0, none⟩) n n) ((List.replicate n 0).set s 1) := by
        have n1 := Blk.new w2 ((mkZ n).setIfInBounds s (.int .i64 1)) 3
        have e : (mkZ n).setIfInBounds s (.int .i64 1) = (((List.replicate n 0).set s 1).map nv).toArray := by
          rw [mkZ_map, List.setIfInBounds_toArray, show Value.int .i64 1 = nv 1 from rfl, ← List.map_set]
        rw [e] at n1
        rw [e]
        exact Nums.of_blk n1 hs2 (by rw [List.length_set, List.length_replicate]) (by omega)
      have hb4 := below_alloc hb (.cells ((mkZ n).setIfInBounds s (.int .i64 1)) 3) (Nat.le_refl _)
      have hL := lens_one (L := L) (most := mo) hp2 hmo1
      rw [hLn] at hL
      have hfin := Lib.hid (hans.out _ _ hb4 hL hO4)
      simp only [List.length_cons, List.length_nil, Nat.zero_add] at hN3 ⊢
      clear hN hN3 hO3 hO4 hblk hans hb hb3 hb4 hba hC3 hge hp hp2 hzl hd ha
      go_wp2_with fail
      go_ret2
      exact hfin.out
    · have hm1 : ((m : Int) == 1) = false := by rw [beq_eq_false_iff_ne]; omega
      have hbest := best_any hN3 hC3 hO3 hzl hd ha hn320 hZl (getD_le_all hsm)
      have hR0 := fun (h0 : Z = []) => show bestO Z.length (nodes0 (fun s => L.getD s 0) Z) (List.replicate n 0) = List.replicate n 0 by rw [h0]; rfl
      have hRf := fun (h2 : 2 ≤ Z.length) => best_facts (R := bestO Z.length (nodes0 (fun s => L.getD s 0) Z) (List.replicate n 0)) hp2 ha h2 (by rw [hLn])
      have hRb := fun (h2 : 2 ≤ Z.length) hx => lens_best (R := bestO Z.length (nodes0 (fun s => L.getD s 0) Z) (List.replicate n 0)) hp2 ha h2 (by rw [hLn]) hx hmo2
      generalize bestO Z.length (nodes0 (fun s => L.getD s 0) Z) (List.replicate n 0) = R at *
      have hZ0 : ∀ x, la = some x → x.block ≠ w2.heap.size := fun x hx => by have := (hge x hx).2; omega
      rw [hm] at hbest hN3 hZl hzm hRf hRb
      replace hbest := Lib.hid hbest
      rw [hm]
      have hm' := Lib.hid hm
      clear hN hm
      clear hO3 hC3 hge
      replace hR0 := Lib.hid hR0
      replace hRf := Lib.hid hRf
      replace hRb := Lib.hid hRb
      go_wp2_with fail
      refine hbest.out.mono ?_
      rintro e w4 ⟨rfl, hO4, hbt⟩
      have hb4 := below_frame hb3 hbt (fun x _ e => by rw [e]; exact hs2) hb3.size
      have hN3' : Nums (w2.alloc (.cells (mkZ n) 3)) w1.heap.size (.slice la Z.length lc) Z := by rw [hm'.out]; exact hN3
      have hN4 := hN3'.but hbt (fun x hx e => by
        cases la with
        | none => simp [Value.ownBlock] at hx
        | some y => exact hZ0 y rfl (by rw [show y.block = x from Option.some.inj hx, e]))
      clear hbt hN3 hN3' hb3 hba hb hbest hmk
      by_cases h0 : m = 0
      · subst h0
        have hZn : Z = [] := List.eq_nil_of_length_eq_zero hm'.out
        have hRn := hR0.out hZn
        subst hZn
        have hL := lens_none (L := L) (most := mo) hp2
        rw [hLn, ← hRn] at hL
        have hfin := Lib.hid (hans.out _ _ hb4 hL hO4)
        clear hans hN4 hp hp2 hRn hO4 hb4 ha
        go_wp2_with fail
        go_ret2
        exact hfin.out
      · have hm2 : 2 ≤ m := by omega
        have hmp : (0 : Int) < (m : Int) := by omega
        obtain ⟨f1, f2, f3, f4, f5, f6⟩ := hRf.out hm2
        have hn1 : 1 ≤ n := by
          match Z, hm'.out, hzl with
          | [], e, _ => simp at e; omega
          | z :: _, _, hzl => have := hzl z (List.mem_cons_self ..); omega
        have hmax := Lib.hid (max_any (w := w4) (a := some ⟨w2.heap.size, 0, none⟩) (n := n) (c := n) hO4 (by omega) hn1 (fun x hx => by have := f6 x hx; omega))
        go_wp2_with fail
        refine hmax.out.mono ?_
        rintro e w5 ⟨⟨M, rfl, hM, hMm⟩, rfl⟩
        have hMb := f6 M hMm
        have hMI : (M : Int) ≤ 320 := by omega
        by_cases hMo : M ≤ mo
        · have hMoI : ¬ ((mo : Int) < (M : Int)) := by omega
          have hfin := Lib.hid (hans.out _ _ hb4 (hRb.out hm2 (fun x hx => Nat.le_trans (hM x hx) hMo)) hO4)
          clear hans hN4 hp hp2 hO4 hb4 ha f1 f2 f3 f4 f5 f6 hM hMm hmax
          go_wp2_with fail
          go_ret2
          exact hfin.out
        · have hMoI : (mo : Int) < (M : Int) := by omega
          have hfl := flat_any hN4 hO4 hZ0 hzl hn320 (by rw [hm'.out]; omega) (by rw [hm'.out]; omega)
          rw [hm'.out] at hfl
          replace hfl := Lib.hid hfl
          have hfin := Lib.hid (fun w' k (k1 : 1 ≤ k) (k2 : k = 1 ∨ 2 ^ (k - 1) < m) (k3 : m ≤ 2 ^ k) hb6 hO6 => hans.out w' _ hb6 (lens_flat (k := k) (O := R) hp2 (by rw [hm'.out]; exact hm2) f1 f3 k1 (by rw [hm'.out]; exact k2) (by rw [hm'.out]; exact k3) (by rw [hm'.out]; exact hzm) hmo1 hmo2) hO6)
          clear hans hN4 hp hp2 hO4 ha f1 f2 f3 f4 f5 f6 hM hMm hmax
          go_wp2_with fail
          refine hfl.out.mono ?_
          rintro e w6 ⟨rfl, ⟨k, k1, k2, k3, k4, hO6⟩, hb6⟩
          have hb7 := below_frame hb4 hb6 (fun x _ e => by rw [e]; exact hs2) hb4.size
          rw [← hm'.out] at hO6
          have hfin2 := Lib.hid (hfin.out w6 k k1 k3 k4 hb7 hO6)
          clear hfin hO6 hb7 hb6 hb4 hfl k3 k4
          go_wp2_with fail
          go_ret2
          exact hfin2.out
end Go.Proofs.Ytdfoimgckahjpaa
