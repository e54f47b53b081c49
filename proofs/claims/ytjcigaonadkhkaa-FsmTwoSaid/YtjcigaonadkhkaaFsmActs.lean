/-
  The walks of package fsm's functions that say what an event does, at each of the ten states.
-/
import Derived.Test.YtjcigaonadkhkaaFsmPlain
namespace Go.Proofs.Ytjcigaonadkhkaa
open Go.RowKit
set_option maxHeartbeats 400000 in
theorem to_any (n : Int) (a : Option Addr) (m c : Nat) (w : World) :
    Calls Try.prog 44 #[.int .i64 n, .slice a m c] w fun e w' => e = .returned (.agg #[.slice a m c, .int .i64 n]) ∧ Below w.heap.size w w' := by
  go_enter Try.func44, Try.ntmps44
  go_wp2
  (try simp only [Exit.inBlock, Exit.then])
  refine bodyPost_ret (v := .agg #[.slice a m c, .int .i64 n]) (results_cell_row rfl _ _ w.heap.size 52 _ (0, 0) _ rfl (heap_alloc_new w _) rfl rfl rfl) rfl ⟨rfl, below_alloc (Below.refl _ _) _ (Nat.le_refl _)⟩
/-- what a state and an event bring -/
def Did (w : World) (l : List Nat) (n : Int) (e : Ending) (w' : World) : Prop :=
  ∃ a c, e = .returned (.agg #[.slice a l.length c, .int .i64 n]) ∧ Nums w' w.heap.size (.slice a l.length c) l ∧ Below w.heap.size w w'
/-- a new variable for the result -/
abbrev fresh (w : World) : World := w.alloc (.cells #[.slice none 0 0, .int .i64 0] 52)
theorem cell_facts {w w' : World} (hb : Below (fresh w).heap.size (fresh w) w') :
    w'.cell? ⟨w.heap.size, 0, none⟩ = some (.slice none 0 0) ∧ w'.frozen? ⟨w.heap.size, 0, none⟩ = false ∧
    (∀ v, (w'.setCell ⟨w.heap.size, 0, none⟩ v).cell? ⟨w.heap.size, 1, none⟩ = some (.int .i64 0)) ∧ (∀ v, (w'.setCell ⟨w.heap.size, 0, none⟩ v).frozen? ⟨w.heap.size, 1, none⟩ = false) := by
  have hg : Blk w' w.heap.size #[.slice none 0 0, .int .i64 0] 52 := (Blk.new w _ _).below hb (by simp)
  exact ⟨hg.cell 0, hg.free 0 _, fun v => (hg.set 0 v).cell 1, fun v => (hg.set 0 v).free 1 _⟩
theorem row_facts {w w' : World} (l : List Nat) (hl : l.length ≤ 1000) (hb : Below ((fresh w).alloc (.cells (l.map iv).toArray 3)).heap.size ((fresh w).alloc (.cells (l.map iv).toArray 3)) w') :
    Below (fresh w).heap.size (fresh w) w' ∧ Nums w' (fresh w).heap.size (.slice (some ⟨w.heap.size + 1, 0, none⟩) l.length l.length) l := by
  have h := (Nums.new (fresh w) l hl).below hb
  rw [alloc_size w] at h
  exact ⟨(below_alloc (Below.refl _ _) _ (Nat.le_refl _)).trans (hb.mono (by simp)), by rw [alloc_size w]; exact h⟩
theorem fin {w w' : World} {l : List Nat} {a : Option Addr} {k : Nat} (n : Int) (hb : Below (fresh w).heap.size (fresh w) w') (hn : Nums w' (fresh w).heap.size (.slice a l.length k) l) :
    Nums ((w'.setCell ⟨w.heap.size, 0, none⟩ (.slice a l.length k)).setCell ⟨w.heap.size, 1, none⟩ (.int .i64 n)) w.heap.size (.slice a l.length k) l ∧
    Below w.heap.size w ((w'.setCell ⟨w.heap.size, 0, none⟩ (.slice a l.length k)).setCell ⟨w.heap.size, 1, none⟩ (.int .i64 n)) ∧
    ((w'.setCell ⟨w.heap.size, 0, none⟩ (.slice a l.length k)).setCell ⟨w.heap.size, 1, none⟩ (.int .i64 n)).heap[w.heap.size]? = some (.cells #[.slice a l.length k, .int .i64 n] 52 (0, 0)) := by
  have hg : Blk w' w.heap.size #[.slice none 0 0, .int .i64 0] 52 := (Blk.new w _ _).below hb (by simp)
  have hs : w.heap.size ≤ w'.heap.size := by have := hg.lt; omega
  have hG := (grown_set (w := w') (b := w.heap.size) (o := 0) (v := .slice a l.length k)).trans (grown_set (b := w.heap.size) (o := 1) (v := .int .i64 n))
  refine ⟨own_mono (own_grown hn hG (by simp)) (by simp), ?_, ((hg.set 0 (.slice a l.length k)).set 1 (.int .i64 n))⟩
  exact below_grow ((below_alloc (Below.refl w.heap.size w) _ (Nat.le_refl _)).trans (hb.mono (by simp))) hG hs (Nat.le_refl _)
theorem talks_any (s : Nat) (w : World) : Calls Try.prog 47 #[.int .i64 s] w fun e w' => e = .returned (.bool (decide (6 ≤ s ∧ s ≤ 9))) ∧ w = w' := by
  go_enter Try.func47, Try.ntmps47
  by_cases h1 : 6 ≤ s
  · have hd : decide (6 ≤ s ∧ s ≤ 9) = decide ((s : Int) ≤ 9) := decide_eq_decide.2 (by omega)
    rw [hd]; clear hd
    go_wp2; go_ret; exact ⟨rfl, rfl⟩
  · have hd : decide (6 ≤ s ∧ s ≤ 9) = false := by simp; omega
    rw [hd]; clear hd
    go_wp2; go_ret; exact ⟨rfl, rfl⟩
theorem waits_any (s : Nat) (w : World) : Calls Try.prog 32 #[.int .i64 s] w fun e w' => e = .returned (.bool (decide (4 ≤ s ∧ s ≤ 8))) ∧ w = w' := by
  go_enter Try.func32, Try.ntmps32
  by_cases h1 : 4 ≤ s
  · have hd : decide (4 ≤ s ∧ s ≤ 8) = decide ((s : Int) ≤ 8) := decide_eq_decide.2 (by omega)
    rw [hd]; clear hd
    go_wp2; go_ret; exact ⟨rfl, rfl⟩
  · have hd : decide (4 ≤ s ∧ s ≤ 8) = false := by simp; omega
    rw [hd]; clear hd
    go_wp2; go_ret; exact ⟨rfl, rfl⟩
theorem on_any (s : Nat) (w : World) : Calls Try.prog 48 #[.int .i64 s] w fun e w' => e = .returned (.int .i64 (if s = 8 then 8 else 6)) ∧ w = w' := by
  go_enter Try.func48, Try.ntmps48
  by_cases h1 : s = 8
  · subst h1; rw [if_pos rfl]; go_wp2; go_ret; exact ⟨rfl, rfl⟩
  · rw [if_neg h1]; go_wp2; go_ret; exact ⟨rfl, rfl⟩
set_option maxHeartbeats 4000000 in
theorem up_any (s : Nat) (hs : s ≤ 9) (w : World) :
    Calls Try.prog 34 #[.int .i64 s] w (Did w (actsN s 0) (nextN s 0)) := by
  rcases ten hs with rfl | rfl | rfl | rfl | rfl | rfl | rfl | rfl | rfl | rfl
  · have hA : actsN 0 0 = [] := by decide
    have hN : nextN 0 0 = 2 := by decide
    rw [hA, hN]; clear hA hN hs
    go_enter Try.func34, Try.ntmps34
    go_wp2_with (first | (go_at_call 44; refine (to_any _ _ _ _ _).mono ?_; rintro e w' ⟨rfl, hb1⟩; obtain ⟨c0, f0, c1, f1⟩ := cell_facts hb1; have hn := Nums.nil w' (fresh w).heap.size))
    (try simp only [Exit.inBlock, Exit.then])
    obtain ⟨g1, g2, g3⟩ := fin (l := []) 2 hb1 hn
    refine bodyPost_ret (v := .agg #[_, _]) (results_cell_row rfl _ _ w.heap.size 52 _ (0, 0) _ rfl g3 rfl rfl rfl) rfl ⟨_, _, rfl, g1, g2⟩
  · have hA : actsN 1 0 = [4, 6] := by decide
    have hN : nextN 1 0 = 6 := by decide
    rw [hA, hN]; clear hA hN hs
    go_enter Try.func34, Try.ntmps34
    go_wp2_with (first | (go_at_call 44; refine (to_any _ _ _ _ _).mono ?_; rintro e w' ⟨rfl, hb⟩; obtain ⟨hb1, hn⟩ := row_facts [4, 6] (by decide) hb; obtain ⟨c0, f0, c1, f1⟩ := cell_facts hb1; clear hb))
    (try simp only [Exit.inBlock, Exit.then])
    obtain ⟨g1, g2, g3⟩ := fin (l := [4, 6]) 6 hb1 hn
    refine bodyPost_ret (v := .agg #[_, _]) (results_cell_row rfl _ _ w.heap.size 52 _ (0, 0) _ rfl g3 rfl rfl rfl) rfl ⟨_, _, rfl, g1, g2⟩
  · have hA : actsN 2 0 = [] := by decide
    have hN : nextN 2 0 = 2 := by decide
    rw [hA, hN]; clear hA hN hs
    go_enter Try.func34, Try.ntmps34
    go_wp2_with (first | (go_at_call 44; refine (to_any _ _ _ _ _).mono ?_; rintro e w' ⟨rfl, hb1⟩; obtain ⟨c0, f0, c1, f1⟩ := cell_facts hb1; have hn := Nums.nil w' (fresh w).heap.size))
    (try simp only [Exit.inBlock, Exit.then])
    obtain ⟨g1, g2, g3⟩ := fin (l := []) 2 hb1 hn
    refine bodyPost_ret (v := .agg #[_, _]) (results_cell_row rfl _ _ w.heap.size 52 _ (0, 0) _ rfl g3 rfl rfl rfl) rfl ⟨_, _, rfl, g1, g2⟩
  · have hA : actsN 3 0 = [] := by decide
    have hN : nextN 3 0 = 3 := by decide
    rw [hA, hN]; clear hA hN hs
    go_enter Try.func34, Try.ntmps34
    go_wp2_with (first | (go_at_call 44; refine (to_any _ _ _ _ _).mono ?_; rintro e w' ⟨rfl, hb1⟩; obtain ⟨c0, f0, c1, f1⟩ := cell_facts hb1; have hn := Nums.nil w' (fresh w).heap.size))
    (try simp only [Exit.inBlock, Exit.then])
    obtain ⟨g1, g2, g3⟩ := fin (l := []) 3 hb1 hn
    refine bodyPost_ret (v := .agg #[_, _]) (results_cell_row rfl _ _ w.heap.size 52 _ (0, 0) _ rfl g3 rfl rfl rfl) rfl ⟨_, _, rfl, g1, g2⟩
  · have hA : actsN 4 0 = [] := by decide
    have hN : nextN 4 0 = 4 := by decide
    rw [hA, hN]; clear hA hN hs
    go_enter Try.func34, Try.ntmps34
    go_wp2_with (first | (go_at_call 44; refine (to_any _ _ _ _ _).mono ?_; rintro e w' ⟨rfl, hb1⟩; obtain ⟨c0, f0, c1, f1⟩ := cell_facts hb1; have hn := Nums.nil w' (fresh w).heap.size))
    (try simp only [Exit.inBlock, Exit.then])
    obtain ⟨g1, g2, g3⟩ := fin (l := []) 4 hb1 hn
    refine bodyPost_ret (v := .agg #[_, _]) (results_cell_row rfl _ _ w.heap.size 52 _ (0, 0) _ rfl g3 rfl rfl rfl) rfl ⟨_, _, rfl, g1, g2⟩
  · have hA : actsN 5 0 = [] := by decide
    have hN : nextN 5 0 = 5 := by decide
    rw [hA, hN]; clear hA hN hs
    go_enter Try.func34, Try.ntmps34
    go_wp2_with (first | (go_at_call 44; refine (to_any _ _ _ _ _).mono ?_; rintro e w' ⟨rfl, hb1⟩; obtain ⟨c0, f0, c1, f1⟩ := cell_facts hb1; have hn := Nums.nil w' (fresh w).heap.size))
    (try simp only [Exit.inBlock, Exit.then])
    obtain ⟨g1, g2, g3⟩ := fin (l := []) 5 hb1 hn
    refine bodyPost_ret (v := .agg #[_, _]) (results_cell_row rfl _ _ w.heap.size 52 _ (0, 0) _ rfl g3 rfl rfl rfl) rfl ⟨_, _, rfl, g1, g2⟩
  · have hA : actsN 6 0 = [] := by decide
    have hN : nextN 6 0 = 6 := by decide
    rw [hA, hN]; clear hA hN hs
    go_enter Try.func34, Try.ntmps34
    go_wp2_with (first | (go_at_call 44; refine (to_any _ _ _ _ _).mono ?_; rintro e w' ⟨rfl, hb1⟩; obtain ⟨c0, f0, c1, f1⟩ := cell_facts hb1; have hn := Nums.nil w' (fresh w).heap.size))
    (try simp only [Exit.inBlock, Exit.then])
    obtain ⟨g1, g2, g3⟩ := fin (l := []) 6 hb1 hn
    refine bodyPost_ret (v := .agg #[_, _]) (results_cell_row rfl _ _ w.heap.size 52 _ (0, 0) _ rfl g3 rfl rfl rfl) rfl ⟨_, _, rfl, g1, g2⟩
  · have hA : actsN 7 0 = [] := by decide
    have hN : nextN 7 0 = 7 := by decide
    rw [hA, hN]; clear hA hN hs
    go_enter Try.func34, Try.ntmps34
    go_wp2_with (first | (go_at_call 44; refine (to_any _ _ _ _ _).mono ?_; rintro e w' ⟨rfl, hb1⟩; obtain ⟨c0, f0, c1, f1⟩ := cell_facts hb1; have hn := Nums.nil w' (fresh w).heap.size))
    (try simp only [Exit.inBlock, Exit.then])
    obtain ⟨g1, g2, g3⟩ := fin (l := []) 7 hb1 hn
    refine bodyPost_ret (v := .agg #[_, _]) (results_cell_row rfl _ _ w.heap.size 52 _ (0, 0) _ rfl g3 rfl rfl rfl) rfl ⟨_, _, rfl, g1, g2⟩
  · have hA : actsN 8 0 = [] := by decide
    have hN : nextN 8 0 = 8 := by decide
    rw [hA, hN]; clear hA hN hs
    go_enter Try.func34, Try.ntmps34
    go_wp2_with (first | (go_at_call 44; refine (to_any _ _ _ _ _).mono ?_; rintro e w' ⟨rfl, hb1⟩; obtain ⟨c0, f0, c1, f1⟩ := cell_facts hb1; have hn := Nums.nil w' (fresh w).heap.size))
    (try simp only [Exit.inBlock, Exit.then])
    obtain ⟨g1, g2, g3⟩ := fin (l := []) 8 hb1 hn
    refine bodyPost_ret (v := .agg #[_, _]) (results_cell_row rfl _ _ w.heap.size 52 _ (0, 0) _ rfl g3 rfl rfl rfl) rfl ⟨_, _, rfl, g1, g2⟩
  · have hA : actsN 9 0 = [] := by decide
    have hN : nextN 9 0 = 9 := by decide
    rw [hA, hN]; clear hA hN hs
    go_enter Try.func34, Try.ntmps34
    go_wp2_with (first | (go_at_call 44; refine (to_any _ _ _ _ _).mono ?_; rintro e w' ⟨rfl, hb1⟩; obtain ⟨c0, f0, c1, f1⟩ := cell_facts hb1; have hn := Nums.nil w' (fresh w).heap.size))
    (try simp only [Exit.inBlock, Exit.then])
    obtain ⟨g1, g2, g3⟩ := fin (l := []) 9 hb1 hn
    refine bodyPost_ret (v := .agg #[_, _]) (results_cell_row rfl _ _ w.heap.size 52 _ (0, 0) _ rfl g3 rfl rfl rfl) rfl ⟨_, _, rfl, g1, g2⟩
set_option maxHeartbeats 4000000 in
theorem down_any (s : Nat) (hs : s ≤ 9) (w : World) :
    Calls Try.prog 35 #[.int .i64 s] w (Did w (actsN s 1) (nextN s 1)) := by
  rcases ten hs with rfl | rfl | rfl | rfl | rfl | rfl | rfl | rfl | rfl | rfl
  · have hA : actsN 0 1 = [] := by decide
    have hN : nextN 0 1 = 0 := by decide
    rw [hA, hN]; clear hA hN hs
    go_enter Try.func35, Try.ntmps35
    go_wp2_with (first | (go_at_call 44; refine (to_any _ _ _ _ _).mono ?_; rintro e w' ⟨rfl, hb1⟩; obtain ⟨c0, f0, c1, f1⟩ := cell_facts hb1; have hn := Nums.nil w' (fresh w).heap.size))
    (try simp only [Exit.inBlock, Exit.then])
    obtain ⟨g1, g2, g3⟩ := fin (l := []) 0 hb1 hn
    refine bodyPost_ret (v := .agg #[_, _]) (results_cell_row rfl _ _ w.heap.size 52 _ (0, 0) _ rfl g3 rfl rfl rfl) rfl ⟨_, _, rfl, g1, g2⟩
  · have hA : actsN 1 1 = [] := by decide
    have hN : nextN 1 1 = 1 := by decide
    rw [hA, hN]; clear hA hN hs
    go_enter Try.func35, Try.ntmps35
    go_wp2_with (first | (go_at_call 44; refine (to_any _ _ _ _ _).mono ?_; rintro e w' ⟨rfl, hb1⟩; obtain ⟨c0, f0, c1, f1⟩ := cell_facts hb1; have hn := Nums.nil w' (fresh w).heap.size))
    (try simp only [Exit.inBlock, Exit.then])
    obtain ⟨g1, g2, g3⟩ := fin (l := []) 1 hb1 hn
    refine bodyPost_ret (v := .agg #[_, _]) (results_cell_row rfl _ _ w.heap.size 52 _ (0, 0) _ rfl g3 rfl rfl rfl) rfl ⟨_, _, rfl, g1, g2⟩
  · have hA : actsN 2 1 = [] := by decide
    have hN : nextN 2 1 = 0 := by decide
    rw [hA, hN]; clear hA hN hs
    go_enter Try.func35, Try.ntmps35
    go_wp2_with (first | (go_at_call 44; refine (to_any _ _ _ _ _).mono ?_; rintro e w' ⟨rfl, hb1⟩; obtain ⟨c0, f0, c1, f1⟩ := cell_facts hb1; have hn := Nums.nil w' (fresh w).heap.size))
    (try simp only [Exit.inBlock, Exit.then])
    obtain ⟨g1, g2, g3⟩ := fin (l := []) 0 hb1 hn
    refine bodyPost_ret (v := .agg #[_, _]) (results_cell_row rfl _ _ w.heap.size 52 _ (0, 0) _ rfl g3 rfl rfl rfl) rfl ⟨_, _, rfl, g1, g2⟩
  · have hA : actsN 3 1 = [2] := by decide
    have hN : nextN 3 1 = 1 := by decide
    rw [hA, hN]; clear hA hN hs
    go_enter Try.func35, Try.ntmps35
    go_wp2_with (first | (go_at_call 44; refine (to_any _ _ _ _ _).mono ?_; rintro e w' ⟨rfl, hb⟩; obtain ⟨hb1, hn⟩ := row_facts [2] (by decide) hb; obtain ⟨c0, f0, c1, f1⟩ := cell_facts hb1; clear hb))
    (try simp only [Exit.inBlock, Exit.then])
    obtain ⟨g1, g2, g3⟩ := fin (l := [2]) 1 hb1 hn
    refine bodyPost_ret (v := .agg #[_, _]) (results_cell_row rfl _ _ w.heap.size 52 _ (0, 0) _ rfl g3 rfl rfl rfl) rfl ⟨_, _, rfl, g1, g2⟩
  · have hA : actsN 4 1 = [] := by decide
    have hN : nextN 4 1 = 0 := by decide
    rw [hA, hN]; clear hA hN hs
    go_enter Try.func35, Try.ntmps35
    go_wp2_with (first | (go_at_call 44; refine (to_any _ _ _ _ _).mono ?_; rintro e w' ⟨rfl, hb1⟩; obtain ⟨c0, f0, c1, f1⟩ := cell_facts hb1; have hn := Nums.nil w' (fresh w).heap.size))
    (try simp only [Exit.inBlock, Exit.then])
    obtain ⟨g1, g2, g3⟩ := fin (l := []) 0 hb1 hn
    refine bodyPost_ret (v := .agg #[_, _]) (results_cell_row rfl _ _ w.heap.size 52 _ (0, 0) _ rfl g3 rfl rfl rfl) rfl ⟨_, _, rfl, g1, g2⟩
  · have hA : actsN 5 1 = [] := by decide
    have hN : nextN 5 1 = 1 := by decide
    rw [hA, hN]; clear hA hN hs
    go_enter Try.func35, Try.ntmps35
    go_wp2_with (first | (go_at_call 44; refine (to_any _ _ _ _ _).mono ?_; rintro e w' ⟨rfl, hb1⟩; obtain ⟨c0, f0, c1, f1⟩ := cell_facts hb1; have hn := Nums.nil w' (fresh w).heap.size))
    (try simp only [Exit.inBlock, Exit.then])
    obtain ⟨g1, g2, g3⟩ := fin (l := []) 1 hb1 hn
    refine bodyPost_ret (v := .agg #[_, _]) (results_cell_row rfl _ _ w.heap.size 52 _ (0, 0) _ rfl g3 rfl rfl rfl) rfl ⟨_, _, rfl, g1, g2⟩
  · have hA : actsN 6 1 = [] := by decide
    have hN : nextN 6 1 = 1 := by decide
    rw [hA, hN]; clear hA hN hs
    go_enter Try.func35, Try.ntmps35
    go_wp2_with (first | (go_at_call 44; refine (to_any _ _ _ _ _).mono ?_; rintro e w' ⟨rfl, hb1⟩; obtain ⟨c0, f0, c1, f1⟩ := cell_facts hb1; have hn := Nums.nil w' (fresh w).heap.size))
    (try simp only [Exit.inBlock, Exit.then])
    obtain ⟨g1, g2, g3⟩ := fin (l := []) 1 hb1 hn
    refine bodyPost_ret (v := .agg #[_, _]) (results_cell_row rfl _ _ w.heap.size 52 _ (0, 0) _ rfl g3 rfl rfl rfl) rfl ⟨_, _, rfl, g1, g2⟩
  · have hA : actsN 7 1 = [] := by decide
    have hN : nextN 7 1 = 1 := by decide
    rw [hA, hN]; clear hA hN hs
    go_enter Try.func35, Try.ntmps35
    go_wp2_with (first | (go_at_call 44; refine (to_any _ _ _ _ _).mono ?_; rintro e w' ⟨rfl, hb1⟩; obtain ⟨c0, f0, c1, f1⟩ := cell_facts hb1; have hn := Nums.nil w' (fresh w).heap.size))
    (try simp only [Exit.inBlock, Exit.then])
    obtain ⟨g1, g2, g3⟩ := fin (l := []) 1 hb1 hn
    refine bodyPost_ret (v := .agg #[_, _]) (results_cell_row rfl _ _ w.heap.size 52 _ (0, 0) _ rfl g3 rfl rfl rfl) rfl ⟨_, _, rfl, g1, g2⟩
  · have hA : actsN 8 1 = [] := by decide
    have hN : nextN 8 1 = 1 := by decide
    rw [hA, hN]; clear hA hN hs
    go_enter Try.func35, Try.ntmps35
    go_wp2_with (first | (go_at_call 44; refine (to_any _ _ _ _ _).mono ?_; rintro e w' ⟨rfl, hb1⟩; obtain ⟨c0, f0, c1, f1⟩ := cell_facts hb1; have hn := Nums.nil w' (fresh w).heap.size))
    (try simp only [Exit.inBlock, Exit.then])
    obtain ⟨g1, g2, g3⟩ := fin (l := []) 1 hb1 hn
    refine bodyPost_ret (v := .agg #[_, _]) (results_cell_row rfl _ _ w.heap.size 52 _ (0, 0) _ rfl g3 rfl rfl rfl) rfl ⟨_, _, rfl, g1, g2⟩
  · have hA : actsN 9 1 = [1] := by decide
    have hN : nextN 9 1 = 1 := by decide
    rw [hA, hN]; clear hA hN hs
    go_enter Try.func35, Try.ntmps35
    go_wp2_with (first | (go_at_call 44; refine (to_any _ _ _ _ _).mono ?_; rintro e w' ⟨rfl, hb⟩; obtain ⟨hb1, hn⟩ := row_facts [1] (by decide) hb; obtain ⟨c0, f0, c1, f1⟩ := cell_facts hb1; clear hb))
    (try simp only [Exit.inBlock, Exit.then])
    obtain ⟨g1, g2, g3⟩ := fin (l := [1]) 1 hb1 hn
    refine bodyPost_ret (v := .agg #[_, _]) (results_cell_row rfl _ _ w.heap.size 52 _ (0, 0) _ rfl g3 rfl rfl rfl) rfl ⟨_, _, rfl, g1, g2⟩
set_option maxHeartbeats 4000000 in
theorem open_any (s : Nat) (hs : s ≤ 9) (w : World) :
    Calls Try.prog 36 #[.int .i64 s] w (Did w (actsN s 2) (nextN s 2)) := by
  rcases ten hs with rfl | rfl | rfl | rfl | rfl | rfl | rfl | rfl | rfl | rfl
  · have hA : actsN 0 2 = [2] := by decide
    have hN : nextN 0 2 = 1 := by decide
    rw [hA, hN]; clear hA hN hs
    go_enter Try.func36, Try.ntmps36
    go_wp2_with (first | (go_at_call 44; refine (to_any _ _ _ _ _).mono ?_; rintro e w' ⟨rfl, hb⟩; obtain ⟨hb1, hn⟩ := row_facts [2] (by decide) hb; obtain ⟨c0, f0, c1, f1⟩ := cell_facts hb1; clear hb))
    (try simp only [Exit.inBlock, Exit.then])
    obtain ⟨g1, g2, g3⟩ := fin (l := [2]) 1 hb1 hn
    refine bodyPost_ret (v := .agg #[_, _]) (results_cell_row rfl _ _ w.heap.size 52 _ (0, 0) _ rfl g3 rfl rfl rfl) rfl ⟨_, _, rfl, g1, g2⟩
  · have hA : actsN 1 2 = [] := by decide
    have hN : nextN 1 2 = 1 := by decide
    rw [hA, hN]; clear hA hN hs
    go_enter Try.func36, Try.ntmps36
    go_wp2_with (first | (go_at_call 44; refine (to_any _ _ _ _ _).mono ?_; rintro e w' ⟨rfl, hb1⟩; obtain ⟨c0, f0, c1, f1⟩ := cell_facts hb1; have hn := Nums.nil w' (fresh w).heap.size))
    (try simp only [Exit.inBlock, Exit.then])
    obtain ⟨g1, g2, g3⟩ := fin (l := []) 1 hb1 hn
    refine bodyPost_ret (v := .agg #[_, _]) (results_cell_row rfl _ _ w.heap.size 52 _ (0, 0) _ rfl g3 rfl rfl rfl) rfl ⟨_, _, rfl, g1, g2⟩
  · have hA : actsN 2 2 = [4, 6] := by decide
    have hN : nextN 2 2 = 6 := by decide
    rw [hA, hN]; clear hA hN hs
    go_enter Try.func36, Try.ntmps36
    go_wp2_with (first | (go_at_call 44; refine (to_any _ _ _ _ _).mono ?_; rintro e w' ⟨rfl, hb⟩; obtain ⟨hb1, hn⟩ := row_facts [4, 6] (by decide) hb; obtain ⟨c0, f0, c1, f1⟩ := cell_facts hb1; clear hb))
    (try simp only [Exit.inBlock, Exit.then])
    obtain ⟨g1, g2, g3⟩ := fin (l := [4, 6]) 6 hb1 hn
    refine bodyPost_ret (v := .agg #[_, _]) (results_cell_row rfl _ _ w.heap.size 52 _ (0, 0) _ rfl g3 rfl rfl rfl) rfl ⟨_, _, rfl, g1, g2⟩
  · have hA : actsN 3 2 = [] := by decide
    have hN : nextN 3 2 = 3 := by decide
    rw [hA, hN]; clear hA hN hs
    go_enter Try.func36, Try.ntmps36
    go_wp2_with (first | (go_at_call 44; refine (to_any _ _ _ _ _).mono ?_; rintro e w' ⟨rfl, hb1⟩; obtain ⟨c0, f0, c1, f1⟩ := cell_facts hb1; have hn := Nums.nil w' (fresh w).heap.size))
    (try simp only [Exit.inBlock, Exit.then])
    obtain ⟨g1, g2, g3⟩ := fin (l := []) 3 hb1 hn
    refine bodyPost_ret (v := .agg #[_, _]) (results_cell_row rfl _ _ w.heap.size 52 _ (0, 0) _ rfl g3 rfl rfl rfl) rfl ⟨_, _, rfl, g1, g2⟩
  · have hA : actsN 4 2 = [] := by decide
    have hN : nextN 4 2 = 5 := by decide
    rw [hA, hN]; clear hA hN hs
    go_enter Try.func36, Try.ntmps36
    go_wp2_with (first | (go_at_call 44; refine (to_any _ _ _ _ _).mono ?_; rintro e w' ⟨rfl, hb1⟩; obtain ⟨c0, f0, c1, f1⟩ := cell_facts hb1; have hn := Nums.nil w' (fresh w).heap.size))
    (try simp only [Exit.inBlock, Exit.then])
    obtain ⟨g1, g2, g3⟩ := fin (l := []) 5 hb1 hn
    refine bodyPost_ret (v := .agg #[_, _]) (results_cell_row rfl _ _ w.heap.size 52 _ (0, 0) _ rfl g3 rfl rfl rfl) rfl ⟨_, _, rfl, g1, g2⟩
  · have hA : actsN 5 2 = [] := by decide
    have hN : nextN 5 2 = 5 := by decide
    rw [hA, hN]; clear hA hN hs
    go_enter Try.func36, Try.ntmps36
    go_wp2_with (first | (go_at_call 44; refine (to_any _ _ _ _ _).mono ?_; rintro e w' ⟨rfl, hb1⟩; obtain ⟨c0, f0, c1, f1⟩ := cell_facts hb1; have hn := Nums.nil w' (fresh w).heap.size))
    (try simp only [Exit.inBlock, Exit.then])
    obtain ⟨g1, g2, g3⟩ := fin (l := []) 5 hb1 hn
    refine bodyPost_ret (v := .agg #[_, _]) (results_cell_row rfl _ _ w.heap.size 52 _ (0, 0) _ rfl g3 rfl rfl rfl) rfl ⟨_, _, rfl, g1, g2⟩
  · have hA : actsN 6 2 = [] := by decide
    have hN : nextN 6 2 = 6 := by decide
    rw [hA, hN]; clear hA hN hs
    go_enter Try.func36, Try.ntmps36
    go_wp2_with (first | (go_at_call 44; refine (to_any _ _ _ _ _).mono ?_; rintro e w' ⟨rfl, hb1⟩; obtain ⟨c0, f0, c1, f1⟩ := cell_facts hb1; have hn := Nums.nil w' (fresh w).heap.size))
    (try simp only [Exit.inBlock, Exit.then])
    obtain ⟨g1, g2, g3⟩ := fin (l := []) 6 hb1 hn
    refine bodyPost_ret (v := .agg #[_, _]) (results_cell_row rfl _ _ w.heap.size 52 _ (0, 0) _ rfl g3 rfl rfl rfl) rfl ⟨_, _, rfl, g1, g2⟩
  · have hA : actsN 7 2 = [] := by decide
    have hN : nextN 7 2 = 7 := by decide
    rw [hA, hN]; clear hA hN hs
    go_enter Try.func36, Try.ntmps36
    go_wp2_with (first | (go_at_call 44; refine (to_any _ _ _ _ _).mono ?_; rintro e w' ⟨rfl, hb1⟩; obtain ⟨c0, f0, c1, f1⟩ := cell_facts hb1; have hn := Nums.nil w' (fresh w).heap.size))
    (try simp only [Exit.inBlock, Exit.then])
    obtain ⟨g1, g2, g3⟩ := fin (l := []) 7 hb1 hn
    refine bodyPost_ret (v := .agg #[_, _]) (results_cell_row rfl _ _ w.heap.size 52 _ (0, 0) _ rfl g3 rfl rfl rfl) rfl ⟨_, _, rfl, g1, g2⟩
  · have hA : actsN 8 2 = [] := by decide
    have hN : nextN 8 2 = 8 := by decide
    rw [hA, hN]; clear hA hN hs
    go_enter Try.func36, Try.ntmps36
    go_wp2_with (first | (go_at_call 44; refine (to_any _ _ _ _ _).mono ?_; rintro e w' ⟨rfl, hb1⟩; obtain ⟨c0, f0, c1, f1⟩ := cell_facts hb1; have hn := Nums.nil w' (fresh w).heap.size))
    (try simp only [Exit.inBlock, Exit.then])
    obtain ⟨g1, g2, g3⟩ := fin (l := []) 8 hb1 hn
    refine bodyPost_ret (v := .agg #[_, _]) (results_cell_row rfl _ _ w.heap.size 52 _ (0, 0) _ rfl g3 rfl rfl rfl) rfl ⟨_, _, rfl, g1, g2⟩
  · have hA : actsN 9 2 = [] := by decide
    have hN : nextN 9 2 = 9 := by decide
    rw [hA, hN]; clear hA hN hs
    go_enter Try.func36, Try.ntmps36
    go_wp2_with (first | (go_at_call 44; refine (to_any _ _ _ _ _).mono ?_; rintro e w' ⟨rfl, hb1⟩; obtain ⟨c0, f0, c1, f1⟩ := cell_facts hb1; have hn := Nums.nil w' (fresh w).heap.size))
    (try simp only [Exit.inBlock, Exit.then])
    obtain ⟨g1, g2, g3⟩ := fin (l := []) 9 hb1 hn
    refine bodyPost_ret (v := .agg #[_, _]) (results_cell_row rfl _ _ w.heap.size 52 _ (0, 0) _ rfl g3 rfl rfl rfl) rfl ⟨_, _, rfl, g1, g2⟩
set_option maxHeartbeats 4000000 in
theorem closes_any (s : Nat) (hs : s ≤ 9) (w : World) :
    Calls Try.prog 37 #[.int .i64 s] w (Did w (actsN s 3) (nextN s 3)) := by
  rcases ten hs with rfl | rfl | rfl | rfl | rfl | rfl | rfl | rfl | rfl | rfl
  · have hA : actsN 0 3 = [] := by decide
    have hN : nextN 0 3 = 0 := by decide
    rw [hA, hN]; clear hA hN hs
    go_enter Try.func37, Try.ntmps37
    go_wp2_with (first | (go_at_call 44; refine (to_any _ _ _ _ _).mono ?_; rintro e w' ⟨rfl, hb1⟩; obtain ⟨c0, f0, c1, f1⟩ := cell_facts hb1; have hn := Nums.nil w' (fresh w).heap.size) | (go_at_call 47; refine (talks_any _ _).mono ?_; rintro e w' ⟨rfl, rfl⟩) | (go_at_call 32; refine (waits_any _ _).mono ?_; rintro e w' ⟨rfl, rfl⟩) | (go_at_call 48; refine (on_any _ _).mono ?_; rintro e w' ⟨rfl, rfl⟩))
    (try simp only [Exit.inBlock, Exit.then])
    obtain ⟨g1, g2, g3⟩ := fin (l := []) 0 hb1 hn
    refine bodyPost_ret (v := .agg #[_, _]) (results_cell_row rfl _ _ w.heap.size 52 _ (0, 0) _ rfl g3 rfl rfl rfl) rfl ⟨_, _, rfl, g1, g2⟩
  · have hA : actsN 1 3 = [3] := by decide
    have hN : nextN 1 3 = 0 := by decide
    rw [hA, hN]; clear hA hN hs
    go_enter Try.func37, Try.ntmps37
    go_wp2_with (first | (go_at_call 44; refine (to_any _ _ _ _ _).mono ?_; rintro e w' ⟨rfl, hb⟩; obtain ⟨hb1, hn⟩ := row_facts [3] (by decide) hb; obtain ⟨c0, f0, c1, f1⟩ := cell_facts hb1; clear hb) | (go_at_call 47; refine (talks_any _ _).mono ?_; rintro e w' ⟨rfl, rfl⟩) | (go_at_call 32; refine (waits_any _ _).mono ?_; rintro e w' ⟨rfl, rfl⟩) | (go_at_call 48; refine (on_any _ _).mono ?_; rintro e w' ⟨rfl, rfl⟩))
    (try simp only [Exit.inBlock, Exit.then])
    obtain ⟨g1, g2, g3⟩ := fin (l := [3]) 0 hb1 hn
    refine bodyPost_ret (v := .agg #[_, _]) (results_cell_row rfl _ _ w.heap.size 52 _ (0, 0) _ rfl g3 rfl rfl rfl) rfl ⟨_, _, rfl, g1, g2⟩
  · have hA : actsN 2 3 = [] := by decide
    have hN : nextN 2 3 = 2 := by decide
    rw [hA, hN]; clear hA hN hs
    go_enter Try.func37, Try.ntmps37
    go_wp2_with (first | (go_at_call 44; refine (to_any _ _ _ _ _).mono ?_; rintro e w' ⟨rfl, hb1⟩; obtain ⟨c0, f0, c1, f1⟩ := cell_facts hb1; have hn := Nums.nil w' (fresh w).heap.size) | (go_at_call 47; refine (talks_any _ _).mono ?_; rintro e w' ⟨rfl, rfl⟩) | (go_at_call 32; refine (waits_any _ _).mono ?_; rintro e w' ⟨rfl, rfl⟩) | (go_at_call 48; refine (on_any _ _).mono ?_; rintro e w' ⟨rfl, rfl⟩))
    (try simp only [Exit.inBlock, Exit.then])
    obtain ⟨g1, g2, g3⟩ := fin (l := []) 2 hb1 hn
    refine bodyPost_ret (v := .agg #[_, _]) (results_cell_row rfl _ _ w.heap.size 52 _ (0, 0) _ rfl g3 rfl rfl rfl) rfl ⟨_, _, rfl, g1, g2⟩
  · have hA : actsN 3 3 = [] := by decide
    have hN : nextN 3 3 = 2 := by decide
    rw [hA, hN]; clear hA hN hs
    go_enter Try.func37, Try.ntmps37
    go_wp2_with (first | (go_at_call 44; refine (to_any _ _ _ _ _).mono ?_; rintro e w' ⟨rfl, hb1⟩; obtain ⟨c0, f0, c1, f1⟩ := cell_facts hb1; have hn := Nums.nil w' (fresh w).heap.size) | (go_at_call 47; refine (talks_any _ _).mono ?_; rintro e w' ⟨rfl, rfl⟩) | (go_at_call 32; refine (waits_any _ _).mono ?_; rintro e w' ⟨rfl, rfl⟩) | (go_at_call 48; refine (on_any _ _).mono ?_; rintro e w' ⟨rfl, rfl⟩))
    (try simp only [Exit.inBlock, Exit.then])
    obtain ⟨g1, g2, g3⟩ := fin (l := []) 2 hb1 hn
    refine bodyPost_ret (v := .agg #[_, _]) (results_cell_row rfl _ _ w.heap.size 52 _ (0, 0) _ rfl g3 rfl rfl rfl) rfl ⟨_, _, rfl, g1, g2⟩
  · have hA : actsN 4 3 = [] := by decide
    have hN : nextN 4 3 = 4 := by decide
    rw [hA, hN]; clear hA hN hs
    go_enter Try.func37, Try.ntmps37
    go_wp2_with (first | (go_at_call 44; refine (to_any _ _ _ _ _).mono ?_; rintro e w' ⟨rfl, hb1⟩; obtain ⟨c0, f0, c1, f1⟩ := cell_facts hb1; have hn := Nums.nil w' (fresh w).heap.size) | (go_at_call 47; refine (talks_any _ _).mono ?_; rintro e w' ⟨rfl, rfl⟩) | (go_at_call 32; refine (waits_any _ _).mono ?_; rintro e w' ⟨rfl, rfl⟩) | (go_at_call 48; refine (on_any _ _).mono ?_; rintro e w' ⟨rfl, rfl⟩))
    (try simp only [Exit.inBlock, Exit.then])
    obtain ⟨g1, g2, g3⟩ := fin (l := []) 4 hb1 hn
    refine bodyPost_ret (v := .agg #[_, _]) (results_cell_row rfl _ _ w.heap.size 52 _ (0, 0) _ rfl g3 rfl rfl rfl) rfl ⟨_, _, rfl, g1, g2⟩
  · have hA : actsN 5 3 = [] := by decide
    have hN : nextN 5 3 = 4 := by decide
    rw [hA, hN]; clear hA hN hs
    go_enter Try.func37, Try.ntmps37
    go_wp2_with (first | (go_at_call 44; refine (to_any _ _ _ _ _).mono ?_; rintro e w' ⟨rfl, hb1⟩; obtain ⟨c0, f0, c1, f1⟩ := cell_facts hb1; have hn := Nums.nil w' (fresh w).heap.size) | (go_at_call 47; refine (talks_any _ _).mono ?_; rintro e w' ⟨rfl, rfl⟩) | (go_at_call 32; refine (waits_any _ _).mono ?_; rintro e w' ⟨rfl, rfl⟩) | (go_at_call 48; refine (on_any _ _).mono ?_; rintro e w' ⟨rfl, rfl⟩))
    (try simp only [Exit.inBlock, Exit.then])
    obtain ⟨g1, g2, g3⟩ := fin (l := []) 4 hb1 hn
    refine bodyPost_ret (v := .agg #[_, _]) (results_cell_row rfl _ _ w.heap.size 52 _ (0, 0) _ rfl g3 rfl rfl rfl) rfl ⟨_, _, rfl, g1, g2⟩
  · have hA : actsN 6 3 = [4, 9] := by decide
    have hN : nextN 6 3 = 4 := by decide
    rw [hA, hN]; clear hA hN hs
    go_enter Try.func37, Try.ntmps37
    go_wp2_with (first | (go_at_call 44; refine (to_any _ _ _ _ _).mono ?_; rintro e w' ⟨rfl, hb⟩; obtain ⟨hb1, hn⟩ := row_facts [4, 9] (by decide) hb; obtain ⟨c0, f0, c1, f1⟩ := cell_facts hb1; clear hb) | (go_at_call 47; refine (talks_any _ _).mono ?_; rintro e w' ⟨rfl, rfl⟩) | (go_at_call 32; refine (waits_any _ _).mono ?_; rintro e w' ⟨rfl, rfl⟩) | (go_at_call 48; refine (on_any _ _).mono ?_; rintro e w' ⟨rfl, rfl⟩))
    (try simp only [Exit.inBlock, Exit.then])
    obtain ⟨g1, g2, g3⟩ := fin (l := [4, 9]) 4 hb1 hn
    refine bodyPost_ret (v := .agg #[_, _]) (results_cell_row rfl _ _ w.heap.size 52 _ (0, 0) _ rfl g3 rfl rfl rfl) rfl ⟨_, _, rfl, g1, g2⟩
  · have hA : actsN 7 3 = [4, 9] := by decide
    have hN : nextN 7 3 = 4 := by decide
    rw [hA, hN]; clear hA hN hs
    go_enter Try.func37, Try.ntmps37
    go_wp2_with (first | (go_at_call 44; refine (to_any _ _ _ _ _).mono ?_; rintro e w' ⟨rfl, hb⟩; obtain ⟨hb1, hn⟩ := row_facts [4, 9] (by decide) hb; obtain ⟨c0, f0, c1, f1⟩ := cell_facts hb1; clear hb) | (go_at_call 47; refine (talks_any _ _).mono ?_; rintro e w' ⟨rfl, rfl⟩) | (go_at_call 32; refine (waits_any _ _).mono ?_; rintro e w' ⟨rfl, rfl⟩) | (go_at_call 48; refine (on_any _ _).mono ?_; rintro e w' ⟨rfl, rfl⟩))
    (try simp only [Exit.inBlock, Exit.then])
    obtain ⟨g1, g2, g3⟩ := fin (l := [4, 9]) 4 hb1 hn
    refine bodyPost_ret (v := .agg #[_, _]) (results_cell_row rfl _ _ w.heap.size 52 _ (0, 0) _ rfl g3 rfl rfl rfl) rfl ⟨_, _, rfl, g1, g2⟩
  · have hA : actsN 8 3 = [4, 9] := by decide
    have hN : nextN 8 3 = 4 := by decide
    rw [hA, hN]; clear hA hN hs
    go_enter Try.func37, Try.ntmps37
    go_wp2_with (first | (go_at_call 44; refine (to_any _ _ _ _ _).mono ?_; rintro e w' ⟨rfl, hb⟩; obtain ⟨hb1, hn⟩ := row_facts [4, 9] (by decide) hb; obtain ⟨c0, f0, c1, f1⟩ := cell_facts hb1; clear hb) | (go_at_call 47; refine (talks_any _ _).mono ?_; rintro e w' ⟨rfl, rfl⟩) | (go_at_call 32; refine (waits_any _ _).mono ?_; rintro e w' ⟨rfl, rfl⟩) | (go_at_call 48; refine (on_any _ _).mono ?_; rintro e w' ⟨rfl, rfl⟩))
    (try simp only [Exit.inBlock, Exit.then])
    obtain ⟨g1, g2, g3⟩ := fin (l := [4, 9]) 4 hb1 hn
    refine bodyPost_ret (v := .agg #[_, _]) (results_cell_row rfl _ _ w.heap.size 52 _ (0, 0) _ rfl g3 rfl rfl rfl) rfl ⟨_, _, rfl, g1, g2⟩
  · have hA : actsN 9 3 = [1, 4, 9] := by decide
    have hN : nextN 9 3 = 4 := by decide
    rw [hA, hN]; clear hA hN hs
    go_enter Try.func37, Try.ntmps37
    go_wp2_with (first | (go_at_call 44; refine (to_any _ _ _ _ _).mono ?_; rintro e w' ⟨rfl, hb⟩; obtain ⟨hb1, hn⟩ := row_facts [1, 4, 9] (by decide) hb; obtain ⟨c0, f0, c1, f1⟩ := cell_facts hb1; clear hb) | (go_at_call 47; refine (talks_any _ _).mono ?_; rintro e w' ⟨rfl, rfl⟩) | (go_at_call 32; refine (waits_any _ _).mono ?_; rintro e w' ⟨rfl, rfl⟩) | (go_at_call 48; refine (on_any _ _).mono ?_; rintro e w' ⟨rfl, rfl⟩))
    (try simp only [Exit.inBlock, Exit.then])
    obtain ⟨g1, g2, g3⟩ := fin (l := [1, 4, 9]) 4 hb1 hn
    refine bodyPost_ret (v := .agg #[_, _]) (results_cell_row rfl _ _ w.heap.size 52 _ (0, 0) _ rfl g3 rfl rfl rfl) rfl ⟨_, _, rfl, g1, g2⟩
set_option maxHeartbeats 4000000 in
theorem again_any (s : Nat) (hs : s ≤ 9) (w : World) :
    Calls Try.prog 38 #[.int .i64 s] w (Did w (actsN s 4) (nextN s 4)) := by
  rcases ten hs with rfl | rfl | rfl | rfl | rfl | rfl | rfl | rfl | rfl | rfl
  · have hA : actsN 0 4 = [] := by decide
    have hN : nextN 0 4 = 0 := by decide
    rw [hA, hN]; clear hA hN hs
    go_enter Try.func38, Try.ntmps38
    go_wp2_with (first | (go_at_call 44; refine (to_any _ _ _ _ _).mono ?_; rintro e w' ⟨rfl, hb1⟩; obtain ⟨c0, f0, c1, f1⟩ := cell_facts hb1; have hn := Nums.nil w' (fresh w).heap.size) | (go_at_call 47; refine (talks_any _ _).mono ?_; rintro e w' ⟨rfl, rfl⟩) | (go_at_call 32; refine (waits_any _ _).mono ?_; rintro e w' ⟨rfl, rfl⟩) | (go_at_call 48; refine (on_any _ _).mono ?_; rintro e w' ⟨rfl, rfl⟩))
    (try simp only [Exit.inBlock, Exit.then])
    obtain ⟨g1, g2, g3⟩ := fin (l := []) 0 hb1 hn
    refine bodyPost_ret (v := .agg #[_, _]) (results_cell_row rfl _ _ w.heap.size 52 _ (0, 0) _ rfl g3 rfl rfl rfl) rfl ⟨_, _, rfl, g1, g2⟩
  · have hA : actsN 1 4 = [] := by decide
    have hN : nextN 1 4 = 1 := by decide
    rw [hA, hN]; clear hA hN hs
    go_enter Try.func38, Try.ntmps38
    go_wp2_with (first | (go_at_call 44; refine (to_any _ _ _ _ _).mono ?_; rintro e w' ⟨rfl, hb1⟩; obtain ⟨c0, f0, c1, f1⟩ := cell_facts hb1; have hn := Nums.nil w' (fresh w).heap.size) | (go_at_call 47; refine (talks_any _ _).mono ?_; rintro e w' ⟨rfl, rfl⟩) | (go_at_call 32; refine (waits_any _ _).mono ?_; rintro e w' ⟨rfl, rfl⟩) | (go_at_call 48; refine (on_any _ _).mono ?_; rintro e w' ⟨rfl, rfl⟩))
    (try simp only [Exit.inBlock, Exit.then])
    obtain ⟨g1, g2, g3⟩ := fin (l := []) 1 hb1 hn
    refine bodyPost_ret (v := .agg #[_, _]) (results_cell_row rfl _ _ w.heap.size 52 _ (0, 0) _ rfl g3 rfl rfl rfl) rfl ⟨_, _, rfl, g1, g2⟩
  · have hA : actsN 2 4 = [] := by decide
    have hN : nextN 2 4 = 2 := by decide
    rw [hA, hN]; clear hA hN hs
    go_enter Try.func38, Try.ntmps38
    go_wp2_with (first | (go_at_call 44; refine (to_any _ _ _ _ _).mono ?_; rintro e w' ⟨rfl, hb1⟩; obtain ⟨c0, f0, c1, f1⟩ := cell_facts hb1; have hn := Nums.nil w' (fresh w).heap.size) | (go_at_call 47; refine (talks_any _ _).mono ?_; rintro e w' ⟨rfl, rfl⟩) | (go_at_call 32; refine (waits_any _ _).mono ?_; rintro e w' ⟨rfl, rfl⟩) | (go_at_call 48; refine (on_any _ _).mono ?_; rintro e w' ⟨rfl, rfl⟩))
    (try simp only [Exit.inBlock, Exit.then])
    obtain ⟨g1, g2, g3⟩ := fin (l := []) 2 hb1 hn
    refine bodyPost_ret (v := .agg #[_, _]) (results_cell_row rfl _ _ w.heap.size 52 _ (0, 0) _ rfl g3 rfl rfl rfl) rfl ⟨_, _, rfl, g1, g2⟩
  · have hA : actsN 3 4 = [] := by decide
    have hN : nextN 3 4 = 3 := by decide
    rw [hA, hN]; clear hA hN hs
    go_enter Try.func38, Try.ntmps38
    go_wp2_with (first | (go_at_call 44; refine (to_any _ _ _ _ _).mono ?_; rintro e w' ⟨rfl, hb1⟩; obtain ⟨c0, f0, c1, f1⟩ := cell_facts hb1; have hn := Nums.nil w' (fresh w).heap.size) | (go_at_call 47; refine (talks_any _ _).mono ?_; rintro e w' ⟨rfl, rfl⟩) | (go_at_call 32; refine (waits_any _ _).mono ?_; rintro e w' ⟨rfl, rfl⟩) | (go_at_call 48; refine (on_any _ _).mono ?_; rintro e w' ⟨rfl, rfl⟩))
    (try simp only [Exit.inBlock, Exit.then])
    obtain ⟨g1, g2, g3⟩ := fin (l := []) 3 hb1 hn
    refine bodyPost_ret (v := .agg #[_, _]) (results_cell_row rfl _ _ w.heap.size 52 _ (0, 0) _ rfl g3 rfl rfl rfl) rfl ⟨_, _, rfl, g1, g2⟩
  · have hA : actsN 4 4 = [9] := by decide
    have hN : nextN 4 4 = 4 := by decide
    rw [hA, hN]; clear hA hN hs
    go_enter Try.func38, Try.ntmps38
    go_wp2_with (first | (go_at_call 44; refine (to_any _ _ _ _ _).mono ?_; rintro e w' ⟨rfl, hb⟩; obtain ⟨hb1, hn⟩ := row_facts [9] (by decide) hb; obtain ⟨c0, f0, c1, f1⟩ := cell_facts hb1; clear hb) | (go_at_call 47; refine (talks_any _ _).mono ?_; rintro e w' ⟨rfl, rfl⟩) | (go_at_call 32; refine (waits_any _ _).mono ?_; rintro e w' ⟨rfl, rfl⟩) | (go_at_call 48; refine (on_any _ _).mono ?_; rintro e w' ⟨rfl, rfl⟩))
    (try simp only [Exit.inBlock, Exit.then])
    obtain ⟨g1, g2, g3⟩ := fin (l := [9]) 4 hb1 hn
    refine bodyPost_ret (v := .agg #[_, _]) (results_cell_row rfl _ _ w.heap.size 52 _ (0, 0) _ rfl g3 rfl rfl rfl) rfl ⟨_, _, rfl, g1, g2⟩
  · have hA : actsN 5 4 = [9] := by decide
    have hN : nextN 5 4 = 5 := by decide
    rw [hA, hN]; clear hA hN hs
    go_enter Try.func38, Try.ntmps38
    go_wp2_with (first | (go_at_call 44; refine (to_any _ _ _ _ _).mono ?_; rintro e w' ⟨rfl, hb⟩; obtain ⟨hb1, hn⟩ := row_facts [9] (by decide) hb; obtain ⟨c0, f0, c1, f1⟩ := cell_facts hb1; clear hb) | (go_at_call 47; refine (talks_any _ _).mono ?_; rintro e w' ⟨rfl, rfl⟩) | (go_at_call 32; refine (waits_any _ _).mono ?_; rintro e w' ⟨rfl, rfl⟩) | (go_at_call 48; refine (on_any _ _).mono ?_; rintro e w' ⟨rfl, rfl⟩))
    (try simp only [Exit.inBlock, Exit.then])
    obtain ⟨g1, g2, g3⟩ := fin (l := [9]) 5 hb1 hn
    refine bodyPost_ret (v := .agg #[_, _]) (results_cell_row rfl _ _ w.heap.size 52 _ (0, 0) _ rfl g3 rfl rfl rfl) rfl ⟨_, _, rfl, g1, g2⟩
  · have hA : actsN 6 4 = [6] := by decide
    have hN : nextN 6 4 = 6 := by decide
    rw [hA, hN]; clear hA hN hs
    go_enter Try.func38, Try.ntmps38
    go_wp2_with (first | (go_at_call 44; refine (to_any _ _ _ _ _).mono ?_; rintro e w' ⟨rfl, hb⟩; obtain ⟨hb1, hn⟩ := row_facts [6] (by decide) hb; obtain ⟨c0, f0, c1, f1⟩ := cell_facts hb1; clear hb) | (go_at_call 47; refine (talks_any _ _).mono ?_; rintro e w' ⟨rfl, rfl⟩) | (go_at_call 32; refine (waits_any _ _).mono ?_; rintro e w' ⟨rfl, rfl⟩) | (go_at_call 48; refine (on_any _ _).mono ?_; rintro e w' ⟨rfl, rfl⟩))
    (try simp only [Exit.inBlock, Exit.then])
    obtain ⟨g1, g2, g3⟩ := fin (l := [6]) 6 hb1 hn
    refine bodyPost_ret (v := .agg #[_, _]) (results_cell_row rfl _ _ w.heap.size 52 _ (0, 0) _ rfl g3 rfl rfl rfl) rfl ⟨_, _, rfl, g1, g2⟩
  · have hA : actsN 7 4 = [6] := by decide
    have hN : nextN 7 4 = 6 := by decide
    rw [hA, hN]; clear hA hN hs
    go_enter Try.func38, Try.ntmps38
    go_wp2_with (first | (go_at_call 44; refine (to_any _ _ _ _ _).mono ?_; rintro e w' ⟨rfl, hb⟩; obtain ⟨hb1, hn⟩ := row_facts [6] (by decide) hb; obtain ⟨c0, f0, c1, f1⟩ := cell_facts hb1; clear hb) | (go_at_call 47; refine (talks_any _ _).mono ?_; rintro e w' ⟨rfl, rfl⟩) | (go_at_call 32; refine (waits_any _ _).mono ?_; rintro e w' ⟨rfl, rfl⟩) | (go_at_call 48; refine (on_any _ _).mono ?_; rintro e w' ⟨rfl, rfl⟩))
    (try simp only [Exit.inBlock, Exit.then])
    obtain ⟨g1, g2, g3⟩ := fin (l := [6]) 6 hb1 hn
    refine bodyPost_ret (v := .agg #[_, _]) (results_cell_row rfl _ _ w.heap.size 52 _ (0, 0) _ rfl g3 rfl rfl rfl) rfl ⟨_, _, rfl, g1, g2⟩
  · have hA : actsN 8 4 = [6] := by decide
    have hN : nextN 8 4 = 8 := by decide
    rw [hA, hN]; clear hA hN hs
    go_enter Try.func38, Try.ntmps38
    go_wp2_with (first | (go_at_call 44; refine (to_any _ _ _ _ _).mono ?_; rintro e w' ⟨rfl, hb⟩; obtain ⟨hb1, hn⟩ := row_facts [6] (by decide) hb; obtain ⟨c0, f0, c1, f1⟩ := cell_facts hb1; clear hb) | (go_at_call 47; refine (talks_any _ _).mono ?_; rintro e w' ⟨rfl, rfl⟩) | (go_at_call 32; refine (waits_any _ _).mono ?_; rintro e w' ⟨rfl, rfl⟩) | (go_at_call 48; refine (on_any _ _).mono ?_; rintro e w' ⟨rfl, rfl⟩))
    (try simp only [Exit.inBlock, Exit.then])
    obtain ⟨g1, g2, g3⟩ := fin (l := [6]) 8 hb1 hn
    refine bodyPost_ret (v := .agg #[_, _]) (results_cell_row rfl _ _ w.heap.size 52 _ (0, 0) _ rfl g3 rfl rfl rfl) rfl ⟨_, _, rfl, g1, g2⟩
  · have hA : actsN 9 4 = [] := by decide
    have hN : nextN 9 4 = 9 := by decide
    rw [hA, hN]; clear hA hN hs
    go_enter Try.func38, Try.ntmps38
    go_wp2_with (first | (go_at_call 44; refine (to_any _ _ _ _ _).mono ?_; rintro e w' ⟨rfl, hb1⟩; obtain ⟨c0, f0, c1, f1⟩ := cell_facts hb1; have hn := Nums.nil w' (fresh w).heap.size) | (go_at_call 47; refine (talks_any _ _).mono ?_; rintro e w' ⟨rfl, rfl⟩) | (go_at_call 32; refine (waits_any _ _).mono ?_; rintro e w' ⟨rfl, rfl⟩) | (go_at_call 48; refine (on_any _ _).mono ?_; rintro e w' ⟨rfl, rfl⟩))
    (try simp only [Exit.inBlock, Exit.then])
    obtain ⟨g1, g2, g3⟩ := fin (l := []) 9 hb1 hn
    refine bodyPost_ret (v := .agg #[_, _]) (results_cell_row rfl _ _ w.heap.size 52 _ (0, 0) _ rfl g3 rfl rfl rfl) rfl ⟨_, _, rfl, g1, g2⟩
set_option maxHeartbeats 4000000 in
theorem over_any (s : Nat) (hs : s ≤ 9) (w : World) :
    Calls Try.prog 39 #[.int .i64 s] w (Did w (actsN s 5) (nextN s 5)) := by
  rcases ten hs with rfl | rfl | rfl | rfl | rfl | rfl | rfl | rfl | rfl | rfl
  · have hA : actsN 0 5 = [] := by decide
    have hN : nextN 0 5 = 0 := by decide
    rw [hA, hN]; clear hA hN hs
    go_enter Try.func39, Try.ntmps39
    go_wp2_with (first | (go_at_call 44; refine (to_any _ _ _ _ _).mono ?_; rintro e w' ⟨rfl, hb1⟩; obtain ⟨c0, f0, c1, f1⟩ := cell_facts hb1; have hn := Nums.nil w' (fresh w).heap.size) | (go_at_call 47; refine (talks_any _ _).mono ?_; rintro e w' ⟨rfl, rfl⟩) | (go_at_call 32; refine (waits_any _ _).mono ?_; rintro e w' ⟨rfl, rfl⟩) | (go_at_call 48; refine (on_any _ _).mono ?_; rintro e w' ⟨rfl, rfl⟩))
    (try simp only [Exit.inBlock, Exit.then])
    obtain ⟨g1, g2, g3⟩ := fin (l := []) 0 hb1 hn
    refine bodyPost_ret (v := .agg #[_, _]) (results_cell_row rfl _ _ w.heap.size 52 _ (0, 0) _ rfl g3 rfl rfl rfl) rfl ⟨_, _, rfl, g1, g2⟩
  · have hA : actsN 1 5 = [] := by decide
    have hN : nextN 1 5 = 1 := by decide
    rw [hA, hN]; clear hA hN hs
    go_enter Try.func39, Try.ntmps39
    go_wp2_with (first | (go_at_call 44; refine (to_any _ _ _ _ _).mono ?_; rintro e w' ⟨rfl, hb1⟩; obtain ⟨c0, f0, c1, f1⟩ := cell_facts hb1; have hn := Nums.nil w' (fresh w).heap.size) | (go_at_call 47; refine (talks_any _ _).mono ?_; rintro e w' ⟨rfl, rfl⟩) | (go_at_call 32; refine (waits_any _ _).mono ?_; rintro e w' ⟨rfl, rfl⟩) | (go_at_call 48; refine (on_any _ _).mono ?_; rintro e w' ⟨rfl, rfl⟩))
    (try simp only [Exit.inBlock, Exit.then])
    obtain ⟨g1, g2, g3⟩ := fin (l := []) 1 hb1 hn
    refine bodyPost_ret (v := .agg #[_, _]) (results_cell_row rfl _ _ w.heap.size 52 _ (0, 0) _ rfl g3 rfl rfl rfl) rfl ⟨_, _, rfl, g1, g2⟩
  · have hA : actsN 2 5 = [] := by decide
    have hN : nextN 2 5 = 2 := by decide
    rw [hA, hN]; clear hA hN hs
    go_enter Try.func39, Try.ntmps39
    go_wp2_with (first | (go_at_call 44; refine (to_any _ _ _ _ _).mono ?_; rintro e w' ⟨rfl, hb1⟩; obtain ⟨c0, f0, c1, f1⟩ := cell_facts hb1; have hn := Nums.nil w' (fresh w).heap.size) | (go_at_call 47; refine (talks_any _ _).mono ?_; rintro e w' ⟨rfl, rfl⟩) | (go_at_call 32; refine (waits_any _ _).mono ?_; rintro e w' ⟨rfl, rfl⟩) | (go_at_call 48; refine (on_any _ _).mono ?_; rintro e w' ⟨rfl, rfl⟩))
    (try simp only [Exit.inBlock, Exit.then])
    obtain ⟨g1, g2, g3⟩ := fin (l := []) 2 hb1 hn
    refine bodyPost_ret (v := .agg #[_, _]) (results_cell_row rfl _ _ w.heap.size 52 _ (0, 0) _ rfl g3 rfl rfl rfl) rfl ⟨_, _, rfl, g1, g2⟩
  · have hA : actsN 3 5 = [] := by decide
    have hN : nextN 3 5 = 3 := by decide
    rw [hA, hN]; clear hA hN hs
    go_enter Try.func39, Try.ntmps39
    go_wp2_with (first | (go_at_call 44; refine (to_any _ _ _ _ _).mono ?_; rintro e w' ⟨rfl, hb1⟩; obtain ⟨c0, f0, c1, f1⟩ := cell_facts hb1; have hn := Nums.nil w' (fresh w).heap.size) | (go_at_call 47; refine (talks_any _ _).mono ?_; rintro e w' ⟨rfl, rfl⟩) | (go_at_call 32; refine (waits_any _ _).mono ?_; rintro e w' ⟨rfl, rfl⟩) | (go_at_call 48; refine (on_any _ _).mono ?_; rintro e w' ⟨rfl, rfl⟩))
    (try simp only [Exit.inBlock, Exit.then])
    obtain ⟨g1, g2, g3⟩ := fin (l := []) 3 hb1 hn
    refine bodyPost_ret (v := .agg #[_, _]) (results_cell_row rfl _ _ w.heap.size 52 _ (0, 0) _ rfl g3 rfl rfl rfl) rfl ⟨_, _, rfl, g1, g2⟩
  · have hA : actsN 4 5 = [3] := by decide
    have hN : nextN 4 5 = 2 := by decide
    rw [hA, hN]; clear hA hN hs
    go_enter Try.func39, Try.ntmps39
    go_wp2_with (first | (go_at_call 44; refine (to_any _ _ _ _ _).mono ?_; rintro e w' ⟨rfl, hb⟩; obtain ⟨hb1, hn⟩ := row_facts [3] (by decide) hb; obtain ⟨c0, f0, c1, f1⟩ := cell_facts hb1; clear hb) | (go_at_call 47; refine (talks_any _ _).mono ?_; rintro e w' ⟨rfl, rfl⟩) | (go_at_call 32; refine (waits_any _ _).mono ?_; rintro e w' ⟨rfl, rfl⟩) | (go_at_call 48; refine (on_any _ _).mono ?_; rintro e w' ⟨rfl, rfl⟩))
    (try simp only [Exit.inBlock, Exit.then])
    obtain ⟨g1, g2, g3⟩ := fin (l := [3]) 2 hb1 hn
    refine bodyPost_ret (v := .agg #[_, _]) (results_cell_row rfl _ _ w.heap.size 52 _ (0, 0) _ rfl g3 rfl rfl rfl) rfl ⟨_, _, rfl, g1, g2⟩
  · have hA : actsN 5 5 = [3] := by decide
    have hN : nextN 5 5 = 3 := by decide
    rw [hA, hN]; clear hA hN hs
    go_enter Try.func39, Try.ntmps39
    go_wp2_with (first | (go_at_call 44; refine (to_any _ _ _ _ _).mono ?_; rintro e w' ⟨rfl, hb⟩; obtain ⟨hb1, hn⟩ := row_facts [3] (by decide) hb; obtain ⟨c0, f0, c1, f1⟩ := cell_facts hb1; clear hb) | (go_at_call 47; refine (talks_any _ _).mono ?_; rintro e w' ⟨rfl, rfl⟩) | (go_at_call 32; refine (waits_any _ _).mono ?_; rintro e w' ⟨rfl, rfl⟩) | (go_at_call 48; refine (on_any _ _).mono ?_; rintro e w' ⟨rfl, rfl⟩))
    (try simp only [Exit.inBlock, Exit.then])
    obtain ⟨g1, g2, g3⟩ := fin (l := [3]) 3 hb1 hn
    refine bodyPost_ret (v := .agg #[_, _]) (results_cell_row rfl _ _ w.heap.size 52 _ (0, 0) _ rfl g3 rfl rfl rfl) rfl ⟨_, _, rfl, g1, g2⟩
  · have hA : actsN 6 5 = [3] := by decide
    have hN : nextN 6 5 = 3 := by decide
    rw [hA, hN]; clear hA hN hs
    go_enter Try.func39, Try.ntmps39
    go_wp2_with (first | (go_at_call 44; refine (to_any _ _ _ _ _).mono ?_; rintro e w' ⟨rfl, hb⟩; obtain ⟨hb1, hn⟩ := row_facts [3] (by decide) hb; obtain ⟨c0, f0, c1, f1⟩ := cell_facts hb1; clear hb) | (go_at_call 47; refine (talks_any _ _).mono ?_; rintro e w' ⟨rfl, rfl⟩) | (go_at_call 32; refine (waits_any _ _).mono ?_; rintro e w' ⟨rfl, rfl⟩) | (go_at_call 48; refine (on_any _ _).mono ?_; rintro e w' ⟨rfl, rfl⟩))
    (try simp only [Exit.inBlock, Exit.then])
    obtain ⟨g1, g2, g3⟩ := fin (l := [3]) 3 hb1 hn
    refine bodyPost_ret (v := .agg #[_, _]) (results_cell_row rfl _ _ w.heap.size 52 _ (0, 0) _ rfl g3 rfl rfl rfl) rfl ⟨_, _, rfl, g1, g2⟩
  · have hA : actsN 7 5 = [3] := by decide
    have hN : nextN 7 5 = 3 := by decide
    rw [hA, hN]; clear hA hN hs
    go_enter Try.func39, Try.ntmps39
    go_wp2_with (first | (go_at_call 44; refine (to_any _ _ _ _ _).mono ?_; rintro e w' ⟨rfl, hb⟩; obtain ⟨hb1, hn⟩ := row_facts [3] (by decide) hb; obtain ⟨c0, f0, c1, f1⟩ := cell_facts hb1; clear hb) | (go_at_call 47; refine (talks_any _ _).mono ?_; rintro e w' ⟨rfl, rfl⟩) | (go_at_call 32; refine (waits_any _ _).mono ?_; rintro e w' ⟨rfl, rfl⟩) | (go_at_call 48; refine (on_any _ _).mono ?_; rintro e w' ⟨rfl, rfl⟩))
    (try simp only [Exit.inBlock, Exit.then])
    obtain ⟨g1, g2, g3⟩ := fin (l := [3]) 3 hb1 hn
    refine bodyPost_ret (v := .agg #[_, _]) (results_cell_row rfl _ _ w.heap.size 52 _ (0, 0) _ rfl g3 rfl rfl rfl) rfl ⟨_, _, rfl, g1, g2⟩
  · have hA : actsN 8 5 = [3] := by decide
    have hN : nextN 8 5 = 3 := by decide
    rw [hA, hN]; clear hA hN hs
    go_enter Try.func39, Try.ntmps39
    go_wp2_with (first | (go_at_call 44; refine (to_any _ _ _ _ _).mono ?_; rintro e w' ⟨rfl, hb⟩; obtain ⟨hb1, hn⟩ := row_facts [3] (by decide) hb; obtain ⟨c0, f0, c1, f1⟩ := cell_facts hb1; clear hb) | (go_at_call 47; refine (talks_any _ _).mono ?_; rintro e w' ⟨rfl, rfl⟩) | (go_at_call 32; refine (waits_any _ _).mono ?_; rintro e w' ⟨rfl, rfl⟩) | (go_at_call 48; refine (on_any _ _).mono ?_; rintro e w' ⟨rfl, rfl⟩))
    (try simp only [Exit.inBlock, Exit.then])
    obtain ⟨g1, g2, g3⟩ := fin (l := [3]) 3 hb1 hn
    refine bodyPost_ret (v := .agg #[_, _]) (results_cell_row rfl _ _ w.heap.size 52 _ (0, 0) _ rfl g3 rfl rfl rfl) rfl ⟨_, _, rfl, g1, g2⟩
  · have hA : actsN 9 5 = [] := by decide
    have hN : nextN 9 5 = 9 := by decide
    rw [hA, hN]; clear hA hN hs
    go_enter Try.func39, Try.ntmps39
    go_wp2_with (first | (go_at_call 44; refine (to_any _ _ _ _ _).mono ?_; rintro e w' ⟨rfl, hb1⟩; obtain ⟨c0, f0, c1, f1⟩ := cell_facts hb1; have hn := Nums.nil w' (fresh w).heap.size) | (go_at_call 47; refine (talks_any _ _).mono ?_; rintro e w' ⟨rfl, rfl⟩) | (go_at_call 32; refine (waits_any _ _).mono ?_; rintro e w' ⟨rfl, rfl⟩) | (go_at_call 48; refine (on_any _ _).mono ?_; rintro e w' ⟨rfl, rfl⟩))
    (try simp only [Exit.inBlock, Exit.then])
    obtain ⟨g1, g2, g3⟩ := fin (l := []) 9 hb1 hn
    refine bodyPost_ret (v := .agg #[_, _]) (results_cell_row rfl _ _ w.heap.size 52 _ (0, 0) _ rfl g3 rfl rfl rfl) rfl ⟨_, _, rfl, g1, g2⟩
end Go.Proofs.Ytjcigaonadkhkaa
