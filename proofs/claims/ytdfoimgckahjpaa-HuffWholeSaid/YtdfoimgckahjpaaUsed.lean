/-
  SortStableFunc, used. No conditions.
-/
import Derived.Test.YtdfoimgckahjpaaSortStable
import Derived.Test.YtdfoimgckahjpaaInts
namespace Go.Proofs.Ytdfoimgckahjpaa
open Go.RowKit
set_option maxRecDepth 100000 in
set_option maxHeartbeats 1000000 in
theorem sort_any {w : World} {B p g n c : Nat} {ca : Option Addr} {mm cc : Nat} {cs : Nat → Nat} {X : List Nat} (hk : Key w p g ca mm cc cs) (h : Nums w B (.slice (some ⟨g, 0, none⟩) n c) X) (hlt : ∀ x ∈ X, x < mm) (hn : n ≤ 1000) :
    Calls Try.prog 64 #[.slice (some ⟨g, 0, none⟩) n c, usedV p] w fun e w' => e = .returned (.tuple #[]) ∧ (∃ Z, Z.Perm X ∧ Asc cs Z ∧ Nums w' B (.slice (some ⟨g, 0, none⟩) n c) Z) ∧ ButOf (fun x => x = g) w w' := by
  have hst := Lib.hid (stable_any hk h hlt hn)
  clear hk h hlt
  unfold usedV at hst ⊢
  go_enter Try.func64, Try.ntmps64
  go_wp2_with (go_at_call 69; refine hst.out.mono ?_; rintro e w5 ⟨rfl, hZ, hB⟩)
  go_end0
  exact ⟨rfl, hZ, hB⟩
set_option maxRecDepth 100000 in
set_option maxHeartbeats 1000000 in
theorem insSort_nil {w : World} (fv : Value) : Calls Try.prog 73 #[.slice none 0 0, .int .i64 0, .int .i64 0, fv] w fun e w' => e = .returned (.tuple #[]) ∧ w' = w := by
  go_enter Try.func73, Try.ntmps73
  go_wp2_with fail
  go_loopw [8] (fun v8 wr => v8 = .int .i64 1 ∧ wr = w) (fun _ _ => 0)
  case atStart => exact ⟨rfl, rfl⟩
  case round =>
    obtain ⟨rfl, rfl⟩ := hrel
    go_wp2_with fail
    go_end0
    exact ⟨rfl, rfl⟩
set_option maxRecDepth 100000 in
set_option maxHeartbeats 1000000 in
theorem stable_nil {w : World} (fv : Value) : Calls Try.prog 69 #[.slice none 0 0, .int .i64 0, fv] w fun e w' => e = .returned (.tuple #[]) ∧ w' = w := by
  have hins := Lib.hid (fun W => insSort_nil (w := W) fv)
  go_enter Try.func69, Try.ntmps69
  go_wp2_with fail
  go_loopw [7, 8] (fun v7 v8 wr => v7 = .int .i64 0 ∧ v8 = .int .i64 20 ∧ wr = w) (fun _ _ _ => 0)
  case atStart => exact ⟨rfl, rfl, rfl⟩
  case round =>
    obtain ⟨rfl, rfl, rfl⟩ := hrel
    go_wp2_with (go_at_call 73; refine (hins.out _).mono ?_; rintro e w5 ⟨rfl, rfl⟩)
    go_loopw [6, 7, 8, 9] (fun v6 _ _ _ wr2 => v6 = .int .i64 20 ∧ wr2 = w5) (fun _ _ _ _ _ => 0)
    case atStart => exact ⟨rfl, rfl⟩
    case round =>
      obtain ⟨rfl, rfl⟩ := hrel
      go_wp2_with fail
      go_end0
      exact ⟨rfl, rfl⟩
set_option maxRecDepth 100000 in
set_option maxHeartbeats 1000000 in
theorem sort_nil {w : World} (fv : Value) : Calls Try.prog 64 #[.slice none 0 0, fv] w fun e w' => e = .returned (.tuple #[]) ∧ w' = w := by
  have hst := Lib.hid (fun W => stable_nil (w := W) fv)
  go_enter Try.func64, Try.ntmps64
  go_wp2_with (go_at_call 69; refine (hst.out _).mono ?_; rintro e w5 ⟨rfl, rfl⟩)
  go_end0
  exact ⟨rfl, rfl⟩
/-- the symbols that come, in order -/
def usedSyms (L : List Nat) (k : Nat) : List Nat := (List.range k).filter fun s => 0 < L.getD s 0
theorem usedSyms_succ (L : List Nat) (k : Nat) : usedSyms L (k + 1) = if 0 < L.getD k 0 then usedSyms L k ++ [k] else usedSyms L k := by
  unfold usedSyms
  rw [List.range_succ, List.filter_append]
  by_cases h : 0 < L.getD k 0
  · rw [if_pos h, List.filter_cons_of_pos (by simpa using h)]; rfl
  · rw [if_neg h, List.filter_cons_of_neg (by simpa using h)]; simp
theorem usedSyms_len (L : List Nat) (k : Nat) : (usedSyms L k).length ≤ k := by
  have := List.length_filter_le (fun s => decide (0 < L.getD s 0)) (List.range k)
  rwa [List.length_range] at this
theorem usedSyms_lt {L : List Nat} {k x : Nat} (h : x ∈ usedSyms L k) : x < k := List.mem_range.1 (List.mem_filter.1 h).1
theorem Nums.form2 {w : World} {B : Nat} {v : Value} {l : List Nat} (h : Nums w B v l) : (v = .slice none 0 0 ∧ l = []) ∨ ∃ g c, v = .slice (some ⟨g, 0, none⟩) l.length c ∧ B ≤ g ∧ g < w.heap.size := by
  rcases h.2 with ⟨e, h0⟩ | ⟨g, cap, cur, e, hg, hh, _⟩
  · exact Or.inl ⟨e, List.eq_nil_of_length_eq_zero h0⟩
  · exact Or.inr ⟨g, cap, e, hg, (Array.getElem?_eq_some_iff.1 hh).1⟩
set_option maxRecDepth 100000 in
set_option maxHeartbeats 4000000 in
theorem used_any {w : World} {a : Option Addr} {n c : Nat} {L : List Nat} (h : Zs w a n c (ints L)) (hn : n ≤ 320) (hsm : ∀ s, L.getD s 0 ≤ 1073741824) :
    Calls Try.prog 59 #[.slice a n c] w fun e w' => ∃ v Z, e = .returned v ∧ Nums w' w.heap.size v Z ∧ Z.Perm (usedSyms L n) ∧ Asc (fun s => L.getD s 0) Z ∧ Below w.heap.size w w' := by
  obtain ⟨i0, hi, hz0, hz1, hz2⟩ := info_parts info_int
  have hi' := Lib.hid hi; clear hi
  have hcap := h.cap
  have hmost := h.most
  have hp := Blk.new w #[.slice a n c] 35
  have hb0 := below_alloc (Below.refl w.heap.size w) (.cells #[.slice a n c] 35) (Nat.le_refl _)
  have hs1 := alloc_size w (.cells #[.slice a n c] 35)
  go_enter Try.func59, Try.ntmps59
  go_wp2_with fail
  go_loopw [3, 8] (fun v i wr => ∃ k : Nat, k ≤ n ∧ i = .int .i64 (k : Nat) ∧ Nums wr (w.heap.size + 1) v (usedSyms L k) ∧ Below (w.heap.size + 1) (w.alloc (.cells #[.slice a n c] 35)) wr) (fun _ i _ => n - (intOf i).toNat)
  case atStart => exact ⟨0, Nat.zero_le _, rfl, Nums.nil _ _, Below.refl _ _⟩
  case round =>
    obtain ⟨k, hk, rfl, hU, hbw⟩ := hrel
    have hbw0 : Below w.heap.size w wr := hb0.trans (hbw.mono (Nat.le_succ _))
    have hsz : w.heap.size + 1 ≤ wr.heap.size := by have := hbw.size; omega
    have hul := usedSyms_len L k
    by_cases hlt : k < n
    · obtain ⟨b1, o1, rfl, hb1, g1⟩ := h.at_ hbw0 hlt
      rw [ints_getD] at g1
      have hss := usedSyms_succ L k
      by_cases h0 : L.getD k 0 = 0
      · rw [h0] at g1
        rw [if_neg (by omega)] at hss
        replace hss := Lib.hid hss
        go_wp2_with fail
        go_roundw
        case rel => exact ⟨k + 1, by omega, by go_num, by rw [hss.out]; exact hU, hbw⟩
        case measure => simp [intOf]; omega
      · rw [if_pos (by omega)] at hss
        obtain ⟨av, cv, rfl⟩ := hU.form
        have hU' : wr.ownsRow (w.heap.size + 1) 3 1 (.slice av (usedSyms L k).length cv) (usedSyms L k).length ((usedSyms L k).map nv) := hU
        have hX : 0 < ((L.getD k 0 : Nat) : Int) := by omega
        clear hU
        replace hss := Lib.hid hss
        replace hsm := Lib.hid hsm
        generalize usedSyms L k = U at *
        generalize L.getD k 0 = X at *
        go_wp2_with (at_builtin; go_must (refine wp_app1_at rfl _ _ 35 rfl (w.heap.size + 1) 3 i0 _ 8 Try.underlying35 hi'.out hz0 hz1 hz2 rfl (.slice av U.length cv) U.length (U.map nv) rfl hU' (nv k) rfl rfl ?c1 ?c2 hsz ?_))
        case c1 => unfold maxLen; omega
        case c2 => omega
        intro v4 w4 ho4 hg4 _
        have hb4 := below_grown hbw hU' hg4 hsz
        have hU4 : Nums w4 (w.heap.size + 1) v4 (usedSyms L (k + 1)) := by
          rw [hss.out]
          unfold Nums
          rw [List.length_append, List.map_append]
          exact ho4
        clear hU' hg4 ho4 hbw
        go_wp2_with fail
        go_roundw
        case rel => exact ⟨k + 1, by omega, by go_num, hU4, hb4⟩
        case measure => simp [intOf]; omega
    · obtain rfl : k = n := by omega
      have hlt2 : ∀ x ∈ usedSyms L k, x < k := fun x hx => usedSyms_lt hx
      obtain ⟨U, hUe⟩ : ∃ U, usedSyms L k = U := ⟨_, rfl⟩
      rw [hUe] at hU hul hlt2
      replace hUe := Lib.hid hUe
      rcases hU.form2 with ⟨rfl, rfl⟩ | ⟨g, cv, rfl, hg1, hg2⟩
      · have hst := Lib.hid (sort_nil (w := wr) (usedV w.heap.size))
        unfold usedV at hst
        clear hbw hp hb0 hs1
        go_wp2_with (go_at_call 64; refine hst.out.mono ?_; rintro e w5 ⟨rfl, rfl⟩)
        go_ret
        exact ⟨_, [], rfl, Nums.nil _ _, by rw [hUe.out], List.Pairwise.nil, hbw0⟩
      · have hkey : Key wr w.heap.size g a k c (fun s => L.getD s 0) := by
          refine ⟨(((hp.below hbw (Nat.lt_succ_self _)).cell 0).trans rfl), fun i hi => ?_, ⟨hcap, hmost⟩, fun i _ => hsm i, by omega⟩
          obtain ⟨b1, o1, e, hb1, g1⟩ := h.at_ hbw0 hi
          rw [ints_getD] at g1
          exact ⟨b1, o1, e, by omega, g1⟩
        have hst := Lib.hid (sort_any (w := wr) (B := w.heap.size + 1) hkey hU hlt2 (by omega))
        unfold usedV at hst
        have hfr := fun W (hW : ButOf (fun x => x = g) wr W) => below_frame hbw0 hW (fun x _ e => by omega) (by omega)
        replace hfr := Lib.hid hfr
        clear hbw hp hb0 hs1 hkey
        go_wp2_with (go_at_call 64; refine hst.out.mono ?_; rintro e w5 ⟨rfl, ⟨Z, hpz, hz, hN5⟩, hB5⟩)
        go_ret
        exact ⟨_, Z, rfl, hN5.mono (Nat.le_succ _), by rw [hUe.out]; exact hpz, hz, hfr.out _ hB5⟩
end Go.Proofs.Ytdfoimgckahjpaa
