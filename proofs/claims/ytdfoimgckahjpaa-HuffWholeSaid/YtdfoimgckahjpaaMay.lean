/-
  slices.Max, may. No conditions.
-/
import Derived.Test.YtdfoimgckahjpaaFlat
namespace Go.Proofs.Ytdfoimgckahjpaa
open Go.RowKit
set_option maxRecDepth 100000 in
set_option maxHeartbeats 4000000 in
theorem max_any {w : World} {B n c : Nat} {a : Option Addr} {l : List Nat} (h : Nums w B (.slice a n c) l) (hn : n ≤ 1000) (h0 : 1 ≤ n) (hb : ∀ x ∈ l, x ≤ 1000000) :
    Calls Try.prog 61 #[.slice a n c] w fun e w' => (∃ M : Nat, e = .returned (.int .i64 M) ∧ (∀ x ∈ l, x ≤ M) ∧ M ∈ l) ∧ w' = w := by
  have hl := Lib.hid h.len
  have hnI : (n : Int) ≤ 1000 := by omega
  have h0I : (1 : Int) ≤ (n : Int) := by omega
  obtain ⟨r, rfl, c0⟩ := h.cell (j := 0) (by rw [← hl.out]; omega)
  replace c0 : w.cell? ⟨r, 0, none⟩ = some (.int .i64 (l.getD 0 0 : Nat)) := c0
  have m0 : l.getD 0 0 ∈ l := n_getD_mem (by rw [← hl.out]; omega)
  have t0 : ∀ x ∈ l.take 1, x ≤ l.getD 0 0 := fun x hx => by
    cases l with
    | nil => simp at hx
    | cons y t => simp at hx; rw [hx]; exact Nat.le_refl _
  obtain ⟨x0, hx0⟩ : ∃ x, l.getD 0 0 = x := ⟨_, rfl⟩
  rw [hx0] at c0 m0 t0
  clear hx0
  obtain ⟨w0, hw0⟩ : ∃ x, x = w := ⟨_, rfl⟩
  rw [← hw0] at h c0 ⊢
  clear hw0
  go_enter Try.func61, Try.ntmps61
  go_wp2_with fail
  go_loopw [3, 4] (fun v3 v4 wr => ∃ k M : Nat, 1 ≤ k ∧ k ≤ n ∧ v3 = .int .i64 (M : Nat) ∧ v4 = .int .i64 (k : Nat) ∧ (∀ x ∈ l.take k, x ≤ M) ∧ M ∈ l ∧ w0 = wr) (fun _ v4 _ => n - (intOf v4).toNat)
  case atStart => exact ⟨1, x0, Nat.le_refl _, h0, rfl, rfl, t0, m0, by first | rfl | trivial⟩
  case round =>
    obtain ⟨k, M, hk1, hk, rfl, rfl, hM, hMl, hwr⟩ := hrel
    subst hwr
    have hMb := hb _ hMl
    have hMI : (M : Int) ≤ 1000000 := by omega
    by_cases hlt : k < n
    · have hltI : (k : Int) < (n : Int) := by omega
      have ck := h.at_ (k := k) (by rw [← hl.out]; omega)
      have hxl : l.getD k 0 ∈ l := n_getD_mem (by rw [← hl.out]; omega)
      have hxb := hb _ hxl
      have htk : l.take (k + 1) = l.take k ++ [l.getD k 0] := by
        rw [List.take_succ_eq_append_getElem (by rw [← hl.out]; omega), List.getD_eq_getElem?_getD, List.getElem?_eq_getElem (by rw [← hl.out]; omega)]; rfl
      generalize l.getD k 0 = x at *
      have hxI : (x : Int) ≤ 1000000 := by omega
      have hmx : Hid (∃ M2 : Nat, Value.int IntKind.i64 (if M < x then (x : Int) else (M : Int)) = .int .i64 (M2 : Nat) ∧ (∀ y ∈ l.take (k + 1), y ≤ M2) ∧ M2 ∈ l) := Lib.hid (by
        by_cases h9 : M < x
        · refine ⟨x, by rw [if_pos h9], fun y hy => ?_, hxl⟩
          rw [htk] at hy
          rcases List.mem_append.1 hy with e | e
          · have := hM y e; omega
          · rw [List.mem_singleton.1 e]; exact Nat.le_refl _
        · refine ⟨M, by rw [if_neg h9], fun y hy => ?_, hMl⟩
          rw [htk] at hy
          rcases List.mem_append.1 hy with e | e
          · exact hM y e
          · rw [List.mem_singleton.1 e]; omega)
      clear htk hxl hM t0
      go_wp2_with fail
      go_roundw
      case rel =>
        obtain ⟨M2, e1, e2, e3⟩ := hmx.out
        exact ⟨k + 1, M2, by omega, by omega, e1, by go_num, e2, e3, by first | rfl | trivial⟩
      case measure => simp [intOf]; omega
    · obtain rfl : k = n := by omega
      have hM2 : ∀ x ∈ l, x ≤ M := fun x hx => hM x (by rw [List.take_of_length_le (by rw [← hl.out]; omega)]; exact hx)
      clear hM t0
      go_wp2_with fail
      go_ret
      exact ⟨⟨M, rfl, hM2, hMl⟩, rfl⟩
theorem take_snoc_z {l : List Int} {k : Nat} (h : k < l.length) : l.take (k + 1) = l.take k ++ [l.getD k 0] := by
  rw [List.take_succ_eq_append_getElem h, List.getD_eq_getElem?_getD, List.getElem?_eq_getElem h]; rfl
theorem getD_mem_z {l : List Int} {k : Nat} (h : k < l.length) : l.getD k 0 ∈ l := by
  rw [List.getD_eq_getElem?_getD, List.getElem?_eq_getElem h]; exact List.getElem_mem h
/-- so many come -/
def manyC (L : List Nat) : Nat := L.countP fun x => 0 < x
theorem manyC_snoc (L : List Nat) (x : Nat) : manyC (L ++ [x]) = if 0 < x then manyC L + 1 else manyC L := by
  unfold manyC
  rw [List.countP_append]
  by_cases h : 0 < x
  · rw [if_pos h, List.countP_cons_of_pos (by simpa using h)]; rfl
  · rw [if_neg h, List.countP_cons_of_neg (by simpa using h)]; rfl
theorem manyC_le (L : List Nat) : manyC L ≤ L.length := List.countP_le_length
/-- what may answers -/
def Mayed (l : List Int) (most : Int) (e : Ending) : Prop :=
  (e = .returned (.bool false) ∧ (320 < l.length ∨ most < 1 ∨ 15 < most ∨ (∃ x, x ∈ l ∧ (x < 0 ∨ 1073741824 < x)) ∨ ∃ (L : List Nat) (mo : Nat), l = ints L ∧ most = (mo : Int) ∧ 2 ^ mo < manyC L)) ∨
  ∃ (L : List Nat) (mo : Nat), l = ints L ∧ most = (mo : Int) ∧ l.length ≤ 320 ∧ 1 ≤ mo ∧ mo ≤ 15 ∧ (∀ x, x ∈ L → x ≤ 1073741824) ∧ manyC L ≤ 2 ^ mo ∧ e = .returned (.bool true)
set_option maxRecDepth 100000 in
set_option maxHeartbeats 4000000 in
theorem may_any {w : World} {a : Option Addr} {n c : Nat} {l : List Int} {most : Int} (h : Zs w a n c l) (hmx : n ≤ 9223372036854775807) (hwf : -9223372036854775808 ≤ most ∧ most ≤ 9223372036854775807) :
    Calls Try.prog 58 #[.slice a n c, .int .i64 most] w fun e w' => Mayed l most e ∧ w' = w := by
  have hl := h.len
  by_cases h320 : 320 < n
  · have hI : (320 : Int) < (n : Int) := by omega
    go_enter Try.func58, Try.ntmps58
    go_wp2_with fail
    go_ret
    exact ⟨.inl ⟨rfl, .inl (by omega)⟩, rfl⟩
  have hI : ¬ ((320 : Int) < (n : Int)) := by omega
  by_cases hlo : most < 1
  · go_enter Try.func58, Try.ntmps58
    go_wp2_with fail
    go_ret
    exact ⟨.inl ⟨rfl, .inr (.inl hlo)⟩, rfl⟩
  by_cases hhi : 15 < most
  · go_enter Try.func58, Try.ntmps58
    go_wp2_with fail
    go_ret
    exact ⟨.inl ⟨rfl, .inr (.inr (.inl hhi))⟩, rfl⟩
  obtain ⟨mo, rfl⟩ := Int.eq_ofNat_of_zero_le (by omega : 0 ≤ most)
  have hmo1 : 1 ≤ mo := by omega
  have hmo2 : mo ≤ 15 := by omega
  have hmoI : (1 : Int) ≤ (mo : Int) := by omega
  have hmoI2 : (mo : Int) ≤ 15 := by omega
  have hPN : 2 ^ mo ≤ 2 ^ 15 := Nat.pow_le_pow_right (by decide) hmo2
  have hP : (2 : Int) ^ mo = ((2 ^ mo : Nat) : Int) := by simp
  obtain ⟨P, hPe⟩ : ∃ P, 2 ^ mo = P := ⟨_, rfl⟩
  rw [hPe] at hPN hP
  have hPI : (P : Int) ≤ 32768 := by omega
  obtain ⟨w0, hw0⟩ : ∃ x, x = w := ⟨_, rfl⟩
  rw [← hw0] at h ⊢
  clear hw0 hlo hhi
  replace hPe := Lib.hid hPe
  go_enter Try.func58, Try.ntmps58
  go_wp2_with fail
  go_loopw [5, 21] (fun v5 v21 wr => ∃ (k : Nat) (M : List Nat), k ≤ n ∧ v21 = .int .i64 (k : Nat) ∧ v5 = .int .i64 (manyC M : Nat) ∧ Hid (M.length = k ∧ l.take k = ints M ∧ ∀ x, x ∈ M → x ≤ 1073741824) ∧ manyC M ≤ k ∧ w0 = wr) (fun _ v21 _ => n - (intOf v21).toNat)
  case atStart => exact ⟨0, [], Nat.zero_le _, rfl, rfl, Lib.hid ⟨rfl, rfl, by simp⟩, Nat.le_refl _, by first | rfl | trivial⟩
  case round =>
    obtain ⟨k, M, hk, rfl, rfl, hM, hmk, hwr⟩ := hrel
    subst hwr
    obtain ⟨hM1, hM2, hM3⟩ := hM.out
    by_cases hlt : k < n
    · have hltI : (k : Int) < (n : Int) := by omega
      obtain ⟨b1, o1, rfl, g1⟩ := h.cell k hlt
      replace g1 : w0.cell? ⟨b1, o1 + k, none⟩ = some (.int .i64 (l.getD k 0)) := g1
      have hmem := getD_mem_z (l := l) (k := k) (by omega)
      have htk := take_snoc_z (l := l) (k := k) (by omega)
      rw [hM2] at htk
      generalize l.getD k 0 = x at *
      by_cases hx0 : x < 0
      · clear htk
        go_wp2_with fail
        go_ret
        exact ⟨.inl ⟨rfl, .inr (.inr (.inr (.inl ⟨x, hmem, .inl hx0⟩)))⟩, rfl⟩
      · by_cases hx1 : 1073741824 < x
        · clear htk
          go_wp2_with fail
          go_ret
          exact ⟨.inl ⟨rfl, .inr (.inr (.inr (.inl ⟨x, hmem, .inr hx1⟩)))⟩, rfl⟩
        · obtain ⟨X, rfl⟩ := Int.eq_ofNat_of_zero_le (by omega : 0 ≤ x)
          have hnx : Hid ((M ++ [X]).length = k + 1 ∧ l.take (k + 1) = ints (M ++ [X]) ∧ ∀ x, x ∈ M ++ [X] → x ≤ 1073741824) := Lib.hid ⟨by simp [hM1], by rw [htk]; simp [ints], fun y hy => by
            rcases List.mem_append.1 hy with e | e
            · exact hM3 y e
            · rw [List.mem_singleton.1 e]; omega⟩
          have hms := manyC_snoc M X
          have hm320 : (manyC M : Int) ≤ 320 := by omega
          clear htk hM hM1 hM2 hM3 hmem
          by_cases hX : 0 < X
          · have hXI : (0 : Int) < (X : Int) := by omega
            rw [if_pos hX] at hms
            have hmsI : (manyC M : Int) + 1 = (manyC (M ++ [X]) : Int) := by omega
            have hle : manyC (M ++ [X]) ≤ k + 1 := by omega
            generalize manyC M = A at *
            generalize hB : manyC (M ++ [X]) = A2 at *
            replace hB := Lib.hid hB
            clear hms
            go_wp2_with fail
            go_roundw
            case rel => exact ⟨k + 1, M ++ [X], by omega, by go_num, by rw [hB.out], hnx, by rw [hB.out]; exact hle, by first | rfl | trivial⟩
            case measure => simp [intOf]; omega
          · obtain rfl : X = 0 := by omega
            rw [if_neg hX] at hms
            have hle : manyC (M ++ [0]) ≤ k + 1 := by omega
            replace hms := Lib.hid hms
            go_wp2_with fail
            go_roundw
            case rel => exact ⟨k + 1, M ++ [0], by omega, by go_num, by rw [hms.out], hnx, hle, by first | rfl | trivial⟩
            case measure => simp [intOf]; omega
    · obtain rfl : k = n := by omega
      rw [List.take_of_length_le (by omega)] at hM2
      have hm320 : (manyC M : Int) ≤ 320 := by omega
      by_cases hfin : manyC M ≤ P
      · have hfI : (manyC M : Int) ≤ (P : Int) := by omega
        have hfd : decide ((manyC M : Int) ≤ (P : Int)) = true := decide_eq_true hfI
        go_wp2_with fail
        go_ret
        exact ⟨.inr ⟨M, mo, by first | exact hM2 | rfl, rfl, by omega, hmo1, hmo2, hM3, by rw [hPe.out]; exact hfin, rfl⟩, rfl⟩
      · have hfI : ¬ ((manyC M : Int) ≤ (P : Int)) := by omega
        have hfd : decide ((manyC M : Int) ≤ (P : Int)) = false := decide_eq_false hfI
        go_wp2_with fail
        go_ret
        exact ⟨.inl ⟨rfl, .inr (.inr (.inr (.inr ⟨M, mo, by first | exact hM2 | rfl, rfl, by rw [hPe.out]; omega⟩)))⟩, rfl⟩
end Go.Proofs.Ytdfoimgckahjpaa
