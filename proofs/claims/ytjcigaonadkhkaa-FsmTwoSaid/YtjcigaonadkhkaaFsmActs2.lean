/-
  The same for requests, replies, ends and rejects.
-/
import Derived.Test.YtjcigaonadkhkaaFsmActs
namespace Go.Proofs.Ytjcigaonadkhkaa
open Go.RowKit
set_option maxHeartbeats 4000000 in
theorem good_any (s : Nat) (hs : s ≤ 9) (w : World) :
    Calls Try.prog 40 #[.int .i64 s, .int .i64 7, .int .i64 8] w (Did w (actsN s 6) (nextN s 6)) := by
  rcases ten hs with rfl | rfl | rfl | rfl | rfl | rfl | rfl | rfl | rfl | rfl
  · have hA : actsN 0 6 = [] := by decide
    have hN : nextN 0 6 = 0 := by decide
    rw [hA, hN]; clear hA hN hs
    go_enter Try.func40, Try.ntmps40
    go_wp2_with (first | (go_at_call 44; refine (to_any _ _ _ _ _).mono ?_; rintro e w' ⟨rfl, hb1⟩; obtain ⟨c0, f0, c1, f1⟩ := cell_facts hb1; have hn := Nums.nil w' (fresh w).heap.size))
    (try simp only [Exit.inBlock, Exit.then])
    obtain ⟨g1, g2, g3⟩ := fin (l := []) 0 hb1 hn
    refine bodyPost_ret (v := .agg #[_, _]) (results_cell_row rfl _ _ w.heap.size 52 _ (0, 0) _ rfl g3 rfl rfl rfl) rfl ⟨_, _, rfl, g1, g2⟩
  · have hA : actsN 1 6 = [] := by decide
    have hN : nextN 1 6 = 1 := by decide
    rw [hA, hN]; clear hA hN hs
    go_enter Try.func40, Try.ntmps40
    go_wp2_with (first | (go_at_call 44; refine (to_any _ _ _ _ _).mono ?_; rintro e w' ⟨rfl, hb1⟩; obtain ⟨c0, f0, c1, f1⟩ := cell_facts hb1; have hn := Nums.nil w' (fresh w).heap.size))
    (try simp only [Exit.inBlock, Exit.then])
    obtain ⟨g1, g2, g3⟩ := fin (l := []) 1 hb1 hn
    refine bodyPost_ret (v := .agg #[_, _]) (results_cell_row rfl _ _ w.heap.size 52 _ (0, 0) _ rfl g3 rfl rfl rfl) rfl ⟨_, _, rfl, g1, g2⟩
  · have hA : actsN 2 6 = [10] := by decide
    have hN : nextN 2 6 = 2 := by decide
    rw [hA, hN]; clear hA hN hs
    go_enter Try.func40, Try.ntmps40
    go_wp2_with (first | (go_at_call 44; refine (to_any _ _ _ _ _).mono ?_; rintro e w' ⟨rfl, hb⟩; obtain ⟨hb1, hn⟩ := row_facts [10] (by decide) hb; obtain ⟨c0, f0, c1, f1⟩ := cell_facts hb1; clear hb))
    (try simp only [Exit.inBlock, Exit.then])
    obtain ⟨g1, g2, g3⟩ := fin (l := [10]) 2 hb1 hn
    refine bodyPost_ret (v := .agg #[_, _]) (results_cell_row rfl _ _ w.heap.size 52 _ (0, 0) _ rfl g3 rfl rfl rfl) rfl ⟨_, _, rfl, g1, g2⟩
  · have hA : actsN 3 6 = [4, 6, 7] := by decide
    have hN : nextN 3 6 = 8 := by decide
    rw [hA, hN]; clear hA hN hs
    go_enter Try.func40, Try.ntmps40
    go_wp2_with (first | (go_at_call 44; refine (to_any _ _ _ _ _).mono ?_; rintro e w' ⟨rfl, hb⟩; obtain ⟨hb1, hn⟩ := row_facts [4, 6, 7] (by decide) hb; obtain ⟨c0, f0, c1, f1⟩ := cell_facts hb1; clear hb))
    (try simp only [Exit.inBlock, Exit.then])
    obtain ⟨g1, g2, g3⟩ := fin (l := [4, 6, 7]) 8 hb1 hn
    refine bodyPost_ret (v := .agg #[_, _]) (results_cell_row rfl _ _ w.heap.size 52 _ (0, 0) _ rfl g3 rfl rfl rfl) rfl ⟨_, _, rfl, g1, g2⟩
  · have hA : actsN 4 6 = [] := by decide
    have hN : nextN 4 6 = 4 := by decide
    rw [hA, hN]; clear hA hN hs
    go_enter Try.func40, Try.ntmps40
    go_wp2_with (first | (go_at_call 44; refine (to_any _ _ _ _ _).mono ?_; rintro e w' ⟨rfl, hb1⟩; obtain ⟨c0, f0, c1, f1⟩ := cell_facts hb1; have hn := Nums.nil w' (fresh w).heap.size))
    (try simp only [Exit.inBlock, Exit.then])
    obtain ⟨g1, g2, g3⟩ := fin (l := []) 4 hb1 hn
    refine bodyPost_ret (v := .agg #[_, _]) (results_cell_row rfl _ _ w.heap.size 52 _ (0, 0) _ rfl g3 rfl rfl rfl) rfl ⟨_, _, rfl, g1, g2⟩
  · have hA : actsN 5 6 = [] := by decide
    have hN : nextN 5 6 = 5 := by decide
    rw [hA, hN]; clear hA hN hs
    go_enter Try.func40, Try.ntmps40
    go_wp2_with (first | (go_at_call 44; refine (to_any _ _ _ _ _).mono ?_; rintro e w' ⟨rfl, hb1⟩; obtain ⟨c0, f0, c1, f1⟩ := cell_facts hb1; have hn := Nums.nil w' (fresh w).heap.size))
    (try simp only [Exit.inBlock, Exit.then])
    obtain ⟨g1, g2, g3⟩ := fin (l := []) 5 hb1 hn
    refine bodyPost_ret (v := .agg #[_, _]) (results_cell_row rfl _ _ w.heap.size 52 _ (0, 0) _ rfl g3 rfl rfl rfl) rfl ⟨_, _, rfl, g1, g2⟩
  · have hA : actsN 6 6 = [7] := by decide
    have hN : nextN 6 6 = 8 := by decide
    rw [hA, hN]; clear hA hN hs
    go_enter Try.func40, Try.ntmps40
    go_wp2_with (first | (go_at_call 44; refine (to_any _ _ _ _ _).mono ?_; rintro e w' ⟨rfl, hb⟩; obtain ⟨hb1, hn⟩ := row_facts [7] (by decide) hb; obtain ⟨c0, f0, c1, f1⟩ := cell_facts hb1; clear hb))
    (try simp only [Exit.inBlock, Exit.then])
    obtain ⟨g1, g2, g3⟩ := fin (l := [7]) 8 hb1 hn
    refine bodyPost_ret (v := .agg #[_, _]) (results_cell_row rfl _ _ w.heap.size 52 _ (0, 0) _ rfl g3 rfl rfl rfl) rfl ⟨_, _, rfl, g1, g2⟩
  · have hA : actsN 7 6 = [7, 0] := by decide
    have hN : nextN 7 6 = 9 := by decide
    rw [hA, hN]; clear hA hN hs
    go_enter Try.func40, Try.ntmps40
    go_wp2_with (first | (go_at_call 44; refine (to_any _ _ _ _ _).mono ?_; rintro e w' ⟨rfl, hb⟩; obtain ⟨hb1, hn⟩ := row_facts [7, 0] (by decide) hb; obtain ⟨c0, f0, c1, f1⟩ := cell_facts hb1; clear hb))
    (try simp only [Exit.inBlock, Exit.then])
    obtain ⟨g1, g2, g3⟩ := fin (l := [7, 0]) 9 hb1 hn
    refine bodyPost_ret (v := .agg #[_, _]) (results_cell_row rfl _ _ w.heap.size 52 _ (0, 0) _ rfl g3 rfl rfl rfl) rfl ⟨_, _, rfl, g1, g2⟩
  · have hA : actsN 8 6 = [7] := by decide
    have hN : nextN 8 6 = 8 := by decide
    rw [hA, hN]; clear hA hN hs
    go_enter Try.func40, Try.ntmps40
    go_wp2_with (first | (go_at_call 44; refine (to_any _ _ _ _ _).mono ?_; rintro e w' ⟨rfl, hb⟩; obtain ⟨hb1, hn⟩ := row_facts [7] (by decide) hb; obtain ⟨c0, f0, c1, f1⟩ := cell_facts hb1; clear hb))
    (try simp only [Exit.inBlock, Exit.then])
    obtain ⟨g1, g2, g3⟩ := fin (l := [7]) 8 hb1 hn
    refine bodyPost_ret (v := .agg #[_, _]) (results_cell_row rfl _ _ w.heap.size 52 _ (0, 0) _ rfl g3 rfl rfl rfl) rfl ⟨_, _, rfl, g1, g2⟩
  · have hA : actsN 9 6 = [1, 6, 7] := by decide
    have hN : nextN 9 6 = 8 := by decide
    rw [hA, hN]; clear hA hN hs
    go_enter Try.func40, Try.ntmps40
    go_wp2_with (first | (go_at_call 44; refine (to_any _ _ _ _ _).mono ?_; rintro e w' ⟨rfl, hb⟩; obtain ⟨hb1, hn⟩ := row_facts [1, 6, 7] (by decide) hb; obtain ⟨c0, f0, c1, f1⟩ := cell_facts hb1; clear hb))
    (try simp only [Exit.inBlock, Exit.then])
    obtain ⟨g1, g2, g3⟩ := fin (l := [1, 6, 7]) 8 hb1 hn
    refine bodyPost_ret (v := .agg #[_, _]) (results_cell_row rfl _ _ w.heap.size 52 _ (0, 0) _ rfl g3 rfl rfl rfl) rfl ⟨_, _, rfl, g1, g2⟩
set_option maxHeartbeats 4000000 in
theorem bad_any (s : Nat) (hs : s ≤ 9) (w : World) :
    Calls Try.prog 40 #[.int .i64 s, .int .i64 8, .int .i64 6] w (Did w (actsN s 7) (nextN s 7)) := by
  rcases ten hs with rfl | rfl | rfl | rfl | rfl | rfl | rfl | rfl | rfl | rfl
  · have hA : actsN 0 7 = [] := by decide
    have hN : nextN 0 7 = 0 := by decide
    rw [hA, hN]; clear hA hN hs
    go_enter Try.func40, Try.ntmps40
    go_wp2_with (first | (go_at_call 44; refine (to_any _ _ _ _ _).mono ?_; rintro e w' ⟨rfl, hb1⟩; obtain ⟨c0, f0, c1, f1⟩ := cell_facts hb1; have hn := Nums.nil w' (fresh w).heap.size))
    (try simp only [Exit.inBlock, Exit.then])
    obtain ⟨g1, g2, g3⟩ := fin (l := []) 0 hb1 hn
    refine bodyPost_ret (v := .agg #[_, _]) (results_cell_row rfl _ _ w.heap.size 52 _ (0, 0) _ rfl g3 rfl rfl rfl) rfl ⟨_, _, rfl, g1, g2⟩
  · have hA : actsN 1 7 = [] := by decide
    have hN : nextN 1 7 = 1 := by decide
    rw [hA, hN]; clear hA hN hs
    go_enter Try.func40, Try.ntmps40
    go_wp2_with (first | (go_at_call 44; refine (to_any _ _ _ _ _).mono ?_; rintro e w' ⟨rfl, hb1⟩; obtain ⟨c0, f0, c1, f1⟩ := cell_facts hb1; have hn := Nums.nil w' (fresh w).heap.size))
    (try simp only [Exit.inBlock, Exit.then])
    obtain ⟨g1, g2, g3⟩ := fin (l := []) 1 hb1 hn
    refine bodyPost_ret (v := .agg #[_, _]) (results_cell_row rfl _ _ w.heap.size 52 _ (0, 0) _ rfl g3 rfl rfl rfl) rfl ⟨_, _, rfl, g1, g2⟩
  · have hA : actsN 2 7 = [10] := by decide
    have hN : nextN 2 7 = 2 := by decide
    rw [hA, hN]; clear hA hN hs
    go_enter Try.func40, Try.ntmps40
    go_wp2_with (first | (go_at_call 44; refine (to_any _ _ _ _ _).mono ?_; rintro e w' ⟨rfl, hb⟩; obtain ⟨hb1, hn⟩ := row_facts [10] (by decide) hb; obtain ⟨c0, f0, c1, f1⟩ := cell_facts hb1; clear hb))
    (try simp only [Exit.inBlock, Exit.then])
    obtain ⟨g1, g2, g3⟩ := fin (l := [10]) 2 hb1 hn
    refine bodyPost_ret (v := .agg #[_, _]) (results_cell_row rfl _ _ w.heap.size 52 _ (0, 0) _ rfl g3 rfl rfl rfl) rfl ⟨_, _, rfl, g1, g2⟩
  · have hA : actsN 3 7 = [4, 6, 8] := by decide
    have hN : nextN 3 7 = 6 := by decide
    rw [hA, hN]; clear hA hN hs
    go_enter Try.func40, Try.ntmps40
    go_wp2_with (first | (go_at_call 44; refine (to_any _ _ _ _ _).mono ?_; rintro e w' ⟨rfl, hb⟩; obtain ⟨hb1, hn⟩ := row_facts [4, 6, 8] (by decide) hb; obtain ⟨c0, f0, c1, f1⟩ := cell_facts hb1; clear hb))
    (try simp only [Exit.inBlock, Exit.then])
    obtain ⟨g1, g2, g3⟩ := fin (l := [4, 6, 8]) 6 hb1 hn
    refine bodyPost_ret (v := .agg #[_, _]) (results_cell_row rfl _ _ w.heap.size 52 _ (0, 0) _ rfl g3 rfl rfl rfl) rfl ⟨_, _, rfl, g1, g2⟩
  · have hA : actsN 4 7 = [] := by decide
    have hN : nextN 4 7 = 4 := by decide
    rw [hA, hN]; clear hA hN hs
    go_enter Try.func40, Try.ntmps40
    go_wp2_with (first | (go_at_call 44; refine (to_any _ _ _ _ _).mono ?_; rintro e w' ⟨rfl, hb1⟩; obtain ⟨c0, f0, c1, f1⟩ := cell_facts hb1; have hn := Nums.nil w' (fresh w).heap.size))
    (try simp only [Exit.inBlock, Exit.then])
    obtain ⟨g1, g2, g3⟩ := fin (l := []) 4 hb1 hn
    refine bodyPost_ret (v := .agg #[_, _]) (results_cell_row rfl _ _ w.heap.size 52 _ (0, 0) _ rfl g3 rfl rfl rfl) rfl ⟨_, _, rfl, g1, g2⟩
  · have hA : actsN 5 7 = [] := by decide
    have hN : nextN 5 7 = 5 := by decide
    rw [hA, hN]; clear hA hN hs
    go_enter Try.func40, Try.ntmps40
    go_wp2_with (first | (go_at_call 44; refine (to_any _ _ _ _ _).mono ?_; rintro e w' ⟨rfl, hb1⟩; obtain ⟨c0, f0, c1, f1⟩ := cell_facts hb1; have hn := Nums.nil w' (fresh w).heap.size))
    (try simp only [Exit.inBlock, Exit.then])
    obtain ⟨g1, g2, g3⟩ := fin (l := []) 5 hb1 hn
    refine bodyPost_ret (v := .agg #[_, _]) (results_cell_row rfl _ _ w.heap.size 52 _ (0, 0) _ rfl g3 rfl rfl rfl) rfl ⟨_, _, rfl, g1, g2⟩
  · have hA : actsN 6 7 = [8] := by decide
    have hN : nextN 6 7 = 6 := by decide
    rw [hA, hN]; clear hA hN hs
    go_enter Try.func40, Try.ntmps40
    go_wp2_with (first | (go_at_call 44; refine (to_any _ _ _ _ _).mono ?_; rintro e w' ⟨rfl, hb⟩; obtain ⟨hb1, hn⟩ := row_facts [8] (by decide) hb; obtain ⟨c0, f0, c1, f1⟩ := cell_facts hb1; clear hb))
    (try simp only [Exit.inBlock, Exit.then])
    obtain ⟨g1, g2, g3⟩ := fin (l := [8]) 6 hb1 hn
    refine bodyPost_ret (v := .agg #[_, _]) (results_cell_row rfl _ _ w.heap.size 52 _ (0, 0) _ rfl g3 rfl rfl rfl) rfl ⟨_, _, rfl, g1, g2⟩
  · have hA : actsN 7 7 = [8] := by decide
    have hN : nextN 7 7 = 7 := by decide
    rw [hA, hN]; clear hA hN hs
    go_enter Try.func40, Try.ntmps40
    go_wp2_with (first | (go_at_call 44; refine (to_any _ _ _ _ _).mono ?_; rintro e w' ⟨rfl, hb⟩; obtain ⟨hb1, hn⟩ := row_facts [8] (by decide) hb; obtain ⟨c0, f0, c1, f1⟩ := cell_facts hb1; clear hb))
    (try simp only [Exit.inBlock, Exit.then])
    obtain ⟨g1, g2, g3⟩ := fin (l := [8]) 7 hb1 hn
    refine bodyPost_ret (v := .agg #[_, _]) (results_cell_row rfl _ _ w.heap.size 52 _ (0, 0) _ rfl g3 rfl rfl rfl) rfl ⟨_, _, rfl, g1, g2⟩
  · have hA : actsN 8 7 = [8] := by decide
    have hN : nextN 8 7 = 6 := by decide
    rw [hA, hN]; clear hA hN hs
    go_enter Try.func40, Try.ntmps40
    go_wp2_with (first | (go_at_call 44; refine (to_any _ _ _ _ _).mono ?_; rintro e w' ⟨rfl, hb⟩; obtain ⟨hb1, hn⟩ := row_facts [8] (by decide) hb; obtain ⟨c0, f0, c1, f1⟩ := cell_facts hb1; clear hb))
    (try simp only [Exit.inBlock, Exit.then])
    obtain ⟨g1, g2, g3⟩ := fin (l := [8]) 6 hb1 hn
    refine bodyPost_ret (v := .agg #[_, _]) (results_cell_row rfl _ _ w.heap.size 52 _ (0, 0) _ rfl g3 rfl rfl rfl) rfl ⟨_, _, rfl, g1, g2⟩
  · have hA : actsN 9 7 = [1, 6, 8] := by decide
    have hN : nextN 9 7 = 6 := by decide
    rw [hA, hN]; clear hA hN hs
    go_enter Try.func40, Try.ntmps40
    go_wp2_with (first | (go_at_call 44; refine (to_any _ _ _ _ _).mono ?_; rintro e w' ⟨rfl, hb⟩; obtain ⟨hb1, hn⟩ := row_facts [1, 6, 8] (by decide) hb; obtain ⟨c0, f0, c1, f1⟩ := cell_facts hb1; clear hb))
    (try simp only [Exit.inBlock, Exit.then])
    obtain ⟨g1, g2, g3⟩ := fin (l := [1, 6, 8]) 6 hb1 hn
    refine bodyPost_ret (v := .agg #[_, _]) (results_cell_row rfl _ _ w.heap.size 52 _ (0, 0) _ rfl g3 rfl rfl rfl) rfl ⟨_, _, rfl, g1, g2⟩
set_option maxHeartbeats 4000000 in
theorem ack_any (s : Nat) (hs : s ≤ 9) (w : World) :
    Calls Try.prog 41 #[.int .i64 s, .bool true] w (Did w (actsN s 8) (nextN s 8)) := by
  rcases ten hs with rfl | rfl | rfl | rfl | rfl | rfl | rfl | rfl | rfl | rfl
  · have hA : actsN 0 8 = [] := by decide
    have hN : nextN 0 8 = 0 := by decide
    rw [hA, hN]; clear hA hN hs
    go_enter Try.func41, Try.ntmps41
    go_wp2_with (first | (go_at_call 44; refine (to_any _ _ _ _ _).mono ?_; rintro e w' ⟨rfl, hb1⟩; obtain ⟨c0, f0, c1, f1⟩ := cell_facts hb1; have hn := Nums.nil w' (fresh w).heap.size))
    (try simp only [Exit.inBlock, Exit.then])
    obtain ⟨g1, g2, g3⟩ := fin (l := []) 0 hb1 hn
    refine bodyPost_ret (v := .agg #[_, _]) (results_cell_row rfl _ _ w.heap.size 52 _ (0, 0) _ rfl g3 rfl rfl rfl) rfl ⟨_, _, rfl, g1, g2⟩
  · have hA : actsN 1 8 = [] := by decide
    have hN : nextN 1 8 = 1 := by decide
    rw [hA, hN]; clear hA hN hs
    go_enter Try.func41, Try.ntmps41
    go_wp2_with (first | (go_at_call 44; refine (to_any _ _ _ _ _).mono ?_; rintro e w' ⟨rfl, hb1⟩; obtain ⟨c0, f0, c1, f1⟩ := cell_facts hb1; have hn := Nums.nil w' (fresh w).heap.size))
    (try simp only [Exit.inBlock, Exit.then])
    obtain ⟨g1, g2, g3⟩ := fin (l := []) 1 hb1 hn
    refine bodyPost_ret (v := .agg #[_, _]) (results_cell_row rfl _ _ w.heap.size 52 _ (0, 0) _ rfl g3 rfl rfl rfl) rfl ⟨_, _, rfl, g1, g2⟩
  · have hA : actsN 2 8 = [10] := by decide
    have hN : nextN 2 8 = 2 := by decide
    rw [hA, hN]; clear hA hN hs
    go_enter Try.func41, Try.ntmps41
    go_wp2_with (first | (go_at_call 44; refine (to_any _ _ _ _ _).mono ?_; rintro e w' ⟨rfl, hb⟩; obtain ⟨hb1, hn⟩ := row_facts [10] (by decide) hb; obtain ⟨c0, f0, c1, f1⟩ := cell_facts hb1; clear hb))
    (try simp only [Exit.inBlock, Exit.then])
    obtain ⟨g1, g2, g3⟩ := fin (l := [10]) 2 hb1 hn
    refine bodyPost_ret (v := .agg #[_, _]) (results_cell_row rfl _ _ w.heap.size 52 _ (0, 0) _ rfl g3 rfl rfl rfl) rfl ⟨_, _, rfl, g1, g2⟩
  · have hA : actsN 3 8 = [10] := by decide
    have hN : nextN 3 8 = 3 := by decide
    rw [hA, hN]; clear hA hN hs
    go_enter Try.func41, Try.ntmps41
    go_wp2_with (first | (go_at_call 44; refine (to_any _ _ _ _ _).mono ?_; rintro e w' ⟨rfl, hb⟩; obtain ⟨hb1, hn⟩ := row_facts [10] (by decide) hb; obtain ⟨c0, f0, c1, f1⟩ := cell_facts hb1; clear hb))
    (try simp only [Exit.inBlock, Exit.then])
    obtain ⟨g1, g2, g3⟩ := fin (l := [10]) 3 hb1 hn
    refine bodyPost_ret (v := .agg #[_, _]) (results_cell_row rfl _ _ w.heap.size 52 _ (0, 0) _ rfl g3 rfl rfl rfl) rfl ⟨_, _, rfl, g1, g2⟩
  · have hA : actsN 4 8 = [] := by decide
    have hN : nextN 4 8 = 4 := by decide
    rw [hA, hN]; clear hA hN hs
    go_enter Try.func41, Try.ntmps41
    go_wp2_with (first | (go_at_call 44; refine (to_any _ _ _ _ _).mono ?_; rintro e w' ⟨rfl, hb1⟩; obtain ⟨c0, f0, c1, f1⟩ := cell_facts hb1; have hn := Nums.nil w' (fresh w).heap.size))
    (try simp only [Exit.inBlock, Exit.then])
    obtain ⟨g1, g2, g3⟩ := fin (l := []) 4 hb1 hn
    refine bodyPost_ret (v := .agg #[_, _]) (results_cell_row rfl _ _ w.heap.size 52 _ (0, 0) _ rfl g3 rfl rfl rfl) rfl ⟨_, _, rfl, g1, g2⟩
  · have hA : actsN 5 8 = [] := by decide
    have hN : nextN 5 8 = 5 := by decide
    rw [hA, hN]; clear hA hN hs
    go_enter Try.func41, Try.ntmps41
    go_wp2_with (first | (go_at_call 44; refine (to_any _ _ _ _ _).mono ?_; rintro e w' ⟨rfl, hb1⟩; obtain ⟨c0, f0, c1, f1⟩ := cell_facts hb1; have hn := Nums.nil w' (fresh w).heap.size))
    (try simp only [Exit.inBlock, Exit.then])
    obtain ⟨g1, g2, g3⟩ := fin (l := []) 5 hb1 hn
    refine bodyPost_ret (v := .agg #[_, _]) (results_cell_row rfl _ _ w.heap.size 52 _ (0, 0) _ rfl g3 rfl rfl rfl) rfl ⟨_, _, rfl, g1, g2⟩
  · have hA : actsN 6 8 = [4] := by decide
    have hN : nextN 6 8 = 7 := by decide
    rw [hA, hN]; clear hA hN hs
    go_enter Try.func41, Try.ntmps41
    go_wp2_with (first | (go_at_call 44; refine (to_any _ _ _ _ _).mono ?_; rintro e w' ⟨rfl, hb⟩; obtain ⟨hb1, hn⟩ := row_facts [4] (by decide) hb; obtain ⟨c0, f0, c1, f1⟩ := cell_facts hb1; clear hb))
    (try simp only [Exit.inBlock, Exit.then])
    obtain ⟨g1, g2, g3⟩ := fin (l := [4]) 7 hb1 hn
    refine bodyPost_ret (v := .agg #[_, _]) (results_cell_row rfl _ _ w.heap.size 52 _ (0, 0) _ rfl g3 rfl rfl rfl) rfl ⟨_, _, rfl, g1, g2⟩
  · have hA : actsN 7 8 = [6] := by decide
    have hN : nextN 7 8 = 6 := by decide
    rw [hA, hN]; clear hA hN hs
    go_enter Try.func41, Try.ntmps41
    go_wp2_with (first | (go_at_call 44; refine (to_any _ _ _ _ _).mono ?_; rintro e w' ⟨rfl, hb⟩; obtain ⟨hb1, hn⟩ := row_facts [6] (by decide) hb; obtain ⟨c0, f0, c1, f1⟩ := cell_facts hb1; clear hb))
    (try simp only [Exit.inBlock, Exit.then])
    obtain ⟨g1, g2, g3⟩ := fin (l := [6]) 6 hb1 hn
    refine bodyPost_ret (v := .agg #[_, _]) (results_cell_row rfl _ _ w.heap.size 52 _ (0, 0) _ rfl g3 rfl rfl rfl) rfl ⟨_, _, rfl, g1, g2⟩
  · have hA : actsN 8 8 = [4, 0] := by decide
    have hN : nextN 8 8 = 9 := by decide
    rw [hA, hN]; clear hA hN hs
    go_enter Try.func41, Try.ntmps41
    go_wp2_with (first | (go_at_call 44; refine (to_any _ _ _ _ _).mono ?_; rintro e w' ⟨rfl, hb⟩; obtain ⟨hb1, hn⟩ := row_facts [4, 0] (by decide) hb; obtain ⟨c0, f0, c1, f1⟩ := cell_facts hb1; clear hb))
    (try simp only [Exit.inBlock, Exit.then])
    obtain ⟨g1, g2, g3⟩ := fin (l := [4, 0]) 9 hb1 hn
    refine bodyPost_ret (v := .agg #[_, _]) (results_cell_row rfl _ _ w.heap.size 52 _ (0, 0) _ rfl g3 rfl rfl rfl) rfl ⟨_, _, rfl, g1, g2⟩
  · have hA : actsN 9 8 = [1, 6] := by decide
    have hN : nextN 9 8 = 6 := by decide
    rw [hA, hN]; clear hA hN hs
    go_enter Try.func41, Try.ntmps41
    go_wp2_with (first | (go_at_call 44; refine (to_any _ _ _ _ _).mono ?_; rintro e w' ⟨rfl, hb⟩; obtain ⟨hb1, hn⟩ := row_facts [1, 6] (by decide) hb; obtain ⟨c0, f0, c1, f1⟩ := cell_facts hb1; clear hb))
    (try simp only [Exit.inBlock, Exit.then])
    obtain ⟨g1, g2, g3⟩ := fin (l := [1, 6]) 6 hb1 hn
    refine bodyPost_ret (v := .agg #[_, _]) (results_cell_row rfl _ _ w.heap.size 52 _ (0, 0) _ rfl g3 rfl rfl rfl) rfl ⟨_, _, rfl, g1, g2⟩
set_option maxHeartbeats 4000000 in
theorem nak_any (s : Nat) (hs : s ≤ 9) (w : World) :
    Calls Try.prog 41 #[.int .i64 s, .bool false] w (Did w (actsN s 9) (nextN s 9)) := by
  rcases ten hs with rfl | rfl | rfl | rfl | rfl | rfl | rfl | rfl | rfl | rfl
  · have hA : actsN 0 9 = [] := by decide
    have hN : nextN 0 9 = 0 := by decide
    rw [hA, hN]; clear hA hN hs
    go_enter Try.func41, Try.ntmps41
    go_wp2_with (first | (go_at_call 44; refine (to_any _ _ _ _ _).mono ?_; rintro e w' ⟨rfl, hb1⟩; obtain ⟨c0, f0, c1, f1⟩ := cell_facts hb1; have hn := Nums.nil w' (fresh w).heap.size))
    (try simp only [Exit.inBlock, Exit.then])
    obtain ⟨g1, g2, g3⟩ := fin (l := []) 0 hb1 hn
    refine bodyPost_ret (v := .agg #[_, _]) (results_cell_row rfl _ _ w.heap.size 52 _ (0, 0) _ rfl g3 rfl rfl rfl) rfl ⟨_, _, rfl, g1, g2⟩
  · have hA : actsN 1 9 = [] := by decide
    have hN : nextN 1 9 = 1 := by decide
    rw [hA, hN]; clear hA hN hs
    go_enter Try.func41, Try.ntmps41
    go_wp2_with (first | (go_at_call 44; refine (to_any _ _ _ _ _).mono ?_; rintro e w' ⟨rfl, hb1⟩; obtain ⟨c0, f0, c1, f1⟩ := cell_facts hb1; have hn := Nums.nil w' (fresh w).heap.size))
    (try simp only [Exit.inBlock, Exit.then])
    obtain ⟨g1, g2, g3⟩ := fin (l := []) 1 hb1 hn
    refine bodyPost_ret (v := .agg #[_, _]) (results_cell_row rfl _ _ w.heap.size 52 _ (0, 0) _ rfl g3 rfl rfl rfl) rfl ⟨_, _, rfl, g1, g2⟩
  · have hA : actsN 2 9 = [10] := by decide
    have hN : nextN 2 9 = 2 := by decide
    rw [hA, hN]; clear hA hN hs
    go_enter Try.func41, Try.ntmps41
    go_wp2_with (first | (go_at_call 44; refine (to_any _ _ _ _ _).mono ?_; rintro e w' ⟨rfl, hb⟩; obtain ⟨hb1, hn⟩ := row_facts [10] (by decide) hb; obtain ⟨c0, f0, c1, f1⟩ := cell_facts hb1; clear hb))
    (try simp only [Exit.inBlock, Exit.then])
    obtain ⟨g1, g2, g3⟩ := fin (l := [10]) 2 hb1 hn
    refine bodyPost_ret (v := .agg #[_, _]) (results_cell_row rfl _ _ w.heap.size 52 _ (0, 0) _ rfl g3 rfl rfl rfl) rfl ⟨_, _, rfl, g1, g2⟩
  · have hA : actsN 3 9 = [10] := by decide
    have hN : nextN 3 9 = 3 := by decide
    rw [hA, hN]; clear hA hN hs
    go_enter Try.func41, Try.ntmps41
    go_wp2_with (first | (go_at_call 44; refine (to_any _ _ _ _ _).mono ?_; rintro e w' ⟨rfl, hb⟩; obtain ⟨hb1, hn⟩ := row_facts [10] (by decide) hb; obtain ⟨c0, f0, c1, f1⟩ := cell_facts hb1; clear hb))
    (try simp only [Exit.inBlock, Exit.then])
    obtain ⟨g1, g2, g3⟩ := fin (l := [10]) 3 hb1 hn
    refine bodyPost_ret (v := .agg #[_, _]) (results_cell_row rfl _ _ w.heap.size 52 _ (0, 0) _ rfl g3 rfl rfl rfl) rfl ⟨_, _, rfl, g1, g2⟩
  · have hA : actsN 4 9 = [] := by decide
    have hN : nextN 4 9 = 4 := by decide
    rw [hA, hN]; clear hA hN hs
    go_enter Try.func41, Try.ntmps41
    go_wp2_with (first | (go_at_call 44; refine (to_any _ _ _ _ _).mono ?_; rintro e w' ⟨rfl, hb1⟩; obtain ⟨c0, f0, c1, f1⟩ := cell_facts hb1; have hn := Nums.nil w' (fresh w).heap.size))
    (try simp only [Exit.inBlock, Exit.then])
    obtain ⟨g1, g2, g3⟩ := fin (l := []) 4 hb1 hn
    refine bodyPost_ret (v := .agg #[_, _]) (results_cell_row rfl _ _ w.heap.size 52 _ (0, 0) _ rfl g3 rfl rfl rfl) rfl ⟨_, _, rfl, g1, g2⟩
  · have hA : actsN 5 9 = [] := by decide
    have hN : nextN 5 9 = 5 := by decide
    rw [hA, hN]; clear hA hN hs
    go_enter Try.func41, Try.ntmps41
    go_wp2_with (first | (go_at_call 44; refine (to_any _ _ _ _ _).mono ?_; rintro e w' ⟨rfl, hb1⟩; obtain ⟨c0, f0, c1, f1⟩ := cell_facts hb1; have hn := Nums.nil w' (fresh w).heap.size))
    (try simp only [Exit.inBlock, Exit.then])
    obtain ⟨g1, g2, g3⟩ := fin (l := []) 5 hb1 hn
    refine bodyPost_ret (v := .agg #[_, _]) (results_cell_row rfl _ _ w.heap.size 52 _ (0, 0) _ rfl g3 rfl rfl rfl) rfl ⟨_, _, rfl, g1, g2⟩
  · have hA : actsN 6 9 = [4, 6] := by decide
    have hN : nextN 6 9 = 6 := by decide
    rw [hA, hN]; clear hA hN hs
    go_enter Try.func41, Try.ntmps41
    go_wp2_with (first | (go_at_call 44; refine (to_any _ _ _ _ _).mono ?_; rintro e w' ⟨rfl, hb⟩; obtain ⟨hb1, hn⟩ := row_facts [4, 6] (by decide) hb; obtain ⟨c0, f0, c1, f1⟩ := cell_facts hb1; clear hb))
    (try simp only [Exit.inBlock, Exit.then])
    obtain ⟨g1, g2, g3⟩ := fin (l := [4, 6]) 6 hb1 hn
    refine bodyPost_ret (v := .agg #[_, _]) (results_cell_row rfl _ _ w.heap.size 52 _ (0, 0) _ rfl g3 rfl rfl rfl) rfl ⟨_, _, rfl, g1, g2⟩
  · have hA : actsN 7 9 = [6] := by decide
    have hN : nextN 7 9 = 6 := by decide
    rw [hA, hN]; clear hA hN hs
    go_enter Try.func41, Try.ntmps41
    go_wp2_with (first | (go_at_call 44; refine (to_any _ _ _ _ _).mono ?_; rintro e w' ⟨rfl, hb⟩; obtain ⟨hb1, hn⟩ := row_facts [6] (by decide) hb; obtain ⟨c0, f0, c1, f1⟩ := cell_facts hb1; clear hb))
    (try simp only [Exit.inBlock, Exit.then])
    obtain ⟨g1, g2, g3⟩ := fin (l := [6]) 6 hb1 hn
    refine bodyPost_ret (v := .agg #[_, _]) (results_cell_row rfl _ _ w.heap.size 52 _ (0, 0) _ rfl g3 rfl rfl rfl) rfl ⟨_, _, rfl, g1, g2⟩
  · have hA : actsN 8 9 = [4, 6] := by decide
    have hN : nextN 8 9 = 8 := by decide
    rw [hA, hN]; clear hA hN hs
    go_enter Try.func41, Try.ntmps41
    go_wp2_with (first | (go_at_call 44; refine (to_any _ _ _ _ _).mono ?_; rintro e w' ⟨rfl, hb⟩; obtain ⟨hb1, hn⟩ := row_facts [4, 6] (by decide) hb; obtain ⟨c0, f0, c1, f1⟩ := cell_facts hb1; clear hb))
    (try simp only [Exit.inBlock, Exit.then])
    obtain ⟨g1, g2, g3⟩ := fin (l := [4, 6]) 8 hb1 hn
    refine bodyPost_ret (v := .agg #[_, _]) (results_cell_row rfl _ _ w.heap.size 52 _ (0, 0) _ rfl g3 rfl rfl rfl) rfl ⟨_, _, rfl, g1, g2⟩
  · have hA : actsN 9 9 = [1, 6] := by decide
    have hN : nextN 9 9 = 6 := by decide
    rw [hA, hN]; clear hA hN hs
    go_enter Try.func41, Try.ntmps41
    go_wp2_with (first | (go_at_call 44; refine (to_any _ _ _ _ _).mono ?_; rintro e w' ⟨rfl, hb⟩; obtain ⟨hb1, hn⟩ := row_facts [1, 6] (by decide) hb; obtain ⟨c0, f0, c1, f1⟩ := cell_facts hb1; clear hb))
    (try simp only [Exit.inBlock, Exit.then])
    obtain ⟨g1, g2, g3⟩ := fin (l := [1, 6]) 6 hb1 hn
    refine bodyPost_ret (v := .agg #[_, _]) (results_cell_row rfl _ _ w.heap.size 52 _ (0, 0) _ rfl g3 rfl rfl rfl) rfl ⟨_, _, rfl, g1, g2⟩
set_option maxHeartbeats 4000000 in
theorem ends_any (s : Nat) (hs : s ≤ 9) (w : World) :
    Calls Try.prog 42 #[.int .i64 s] w (Did w (actsN s 10) (nextN s 10)) := by
  rcases ten hs with rfl | rfl | rfl | rfl | rfl | rfl | rfl | rfl | rfl | rfl
  · have hA : actsN 0 10 = [] := by decide
    have hN : nextN 0 10 = 0 := by decide
    rw [hA, hN]; clear hA hN hs
    go_enter Try.func42, Try.ntmps42
    go_wp2_with (first | (go_at_call 44; refine (to_any _ _ _ _ _).mono ?_; rintro e w' ⟨rfl, hb1⟩; obtain ⟨c0, f0, c1, f1⟩ := cell_facts hb1; have hn := Nums.nil w' (fresh w).heap.size) | (go_at_call 47; refine (talks_any _ _).mono ?_; rintro e w' ⟨rfl, rfl⟩) | (go_at_call 32; refine (waits_any _ _).mono ?_; rintro e w' ⟨rfl, rfl⟩) | (go_at_call 48; refine (on_any _ _).mono ?_; rintro e w' ⟨rfl, rfl⟩))
    (try simp only [Exit.inBlock, Exit.then])
    obtain ⟨g1, g2, g3⟩ := fin (l := []) 0 hb1 hn
    refine bodyPost_ret (v := .agg #[_, _]) (results_cell_row rfl _ _ w.heap.size 52 _ (0, 0) _ rfl g3 rfl rfl rfl) rfl ⟨_, _, rfl, g1, g2⟩
  · have hA : actsN 1 10 = [] := by decide
    have hN : nextN 1 10 = 1 := by decide
    rw [hA, hN]; clear hA hN hs
    go_enter Try.func42, Try.ntmps42
    go_wp2_with (first | (go_at_call 44; refine (to_any _ _ _ _ _).mono ?_; rintro e w' ⟨rfl, hb1⟩; obtain ⟨c0, f0, c1, f1⟩ := cell_facts hb1; have hn := Nums.nil w' (fresh w).heap.size) | (go_at_call 47; refine (talks_any _ _).mono ?_; rintro e w' ⟨rfl, rfl⟩) | (go_at_call 32; refine (waits_any _ _).mono ?_; rintro e w' ⟨rfl, rfl⟩) | (go_at_call 48; refine (on_any _ _).mono ?_; rintro e w' ⟨rfl, rfl⟩))
    (try simp only [Exit.inBlock, Exit.then])
    obtain ⟨g1, g2, g3⟩ := fin (l := []) 1 hb1 hn
    refine bodyPost_ret (v := .agg #[_, _]) (results_cell_row rfl _ _ w.heap.size 52 _ (0, 0) _ rfl g3 rfl rfl rfl) rfl ⟨_, _, rfl, g1, g2⟩
  · have hA : actsN 2 10 = [10] := by decide
    have hN : nextN 2 10 = 2 := by decide
    rw [hA, hN]; clear hA hN hs
    go_enter Try.func42, Try.ntmps42
    go_wp2_with (first | (go_at_call 44; refine (to_any _ _ _ _ _).mono ?_; rintro e w' ⟨rfl, hb⟩; obtain ⟨hb1, hn⟩ := row_facts [10] (by decide) hb; obtain ⟨c0, f0, c1, f1⟩ := cell_facts hb1; clear hb) | (go_at_call 47; refine (talks_any _ _).mono ?_; rintro e w' ⟨rfl, rfl⟩) | (go_at_call 32; refine (waits_any _ _).mono ?_; rintro e w' ⟨rfl, rfl⟩) | (go_at_call 48; refine (on_any _ _).mono ?_; rintro e w' ⟨rfl, rfl⟩))
    (try simp only [Exit.inBlock, Exit.then])
    obtain ⟨g1, g2, g3⟩ := fin (l := [10]) 2 hb1 hn
    refine bodyPost_ret (v := .agg #[_, _]) (results_cell_row rfl _ _ w.heap.size 52 _ (0, 0) _ rfl g3 rfl rfl rfl) rfl ⟨_, _, rfl, g1, g2⟩
  · have hA : actsN 3 10 = [10] := by decide
    have hN : nextN 3 10 = 3 := by decide
    rw [hA, hN]; clear hA hN hs
    go_enter Try.func42, Try.ntmps42
    go_wp2_with (first | (go_at_call 44; refine (to_any _ _ _ _ _).mono ?_; rintro e w' ⟨rfl, hb⟩; obtain ⟨hb1, hn⟩ := row_facts [10] (by decide) hb; obtain ⟨c0, f0, c1, f1⟩ := cell_facts hb1; clear hb) | (go_at_call 47; refine (talks_any _ _).mono ?_; rintro e w' ⟨rfl, rfl⟩) | (go_at_call 32; refine (waits_any _ _).mono ?_; rintro e w' ⟨rfl, rfl⟩) | (go_at_call 48; refine (on_any _ _).mono ?_; rintro e w' ⟨rfl, rfl⟩))
    (try simp only [Exit.inBlock, Exit.then])
    obtain ⟨g1, g2, g3⟩ := fin (l := [10]) 3 hb1 hn
    refine bodyPost_ret (v := .agg #[_, _]) (results_cell_row rfl _ _ w.heap.size 52 _ (0, 0) _ rfl g3 rfl rfl rfl) rfl ⟨_, _, rfl, g1, g2⟩
  · have hA : actsN 4 10 = [10] := by decide
    have hN : nextN 4 10 = 4 := by decide
    rw [hA, hN]; clear hA hN hs
    go_enter Try.func42, Try.ntmps42
    go_wp2_with (first | (go_at_call 44; refine (to_any _ _ _ _ _).mono ?_; rintro e w' ⟨rfl, hb⟩; obtain ⟨hb1, hn⟩ := row_facts [10] (by decide) hb; obtain ⟨c0, f0, c1, f1⟩ := cell_facts hb1; clear hb) | (go_at_call 47; refine (talks_any _ _).mono ?_; rintro e w' ⟨rfl, rfl⟩) | (go_at_call 32; refine (waits_any _ _).mono ?_; rintro e w' ⟨rfl, rfl⟩) | (go_at_call 48; refine (on_any _ _).mono ?_; rintro e w' ⟨rfl, rfl⟩))
    (try simp only [Exit.inBlock, Exit.then])
    obtain ⟨g1, g2, g3⟩ := fin (l := [10]) 4 hb1 hn
    refine bodyPost_ret (v := .agg #[_, _]) (results_cell_row rfl _ _ w.heap.size 52 _ (0, 0) _ rfl g3 rfl rfl rfl) rfl ⟨_, _, rfl, g1, g2⟩
  · have hA : actsN 5 10 = [10] := by decide
    have hN : nextN 5 10 = 5 := by decide
    rw [hA, hN]; clear hA hN hs
    go_enter Try.func42, Try.ntmps42
    go_wp2_with (first | (go_at_call 44; refine (to_any _ _ _ _ _).mono ?_; rintro e w' ⟨rfl, hb⟩; obtain ⟨hb1, hn⟩ := row_facts [10] (by decide) hb; obtain ⟨c0, f0, c1, f1⟩ := cell_facts hb1; clear hb) | (go_at_call 47; refine (talks_any _ _).mono ?_; rintro e w' ⟨rfl, rfl⟩) | (go_at_call 32; refine (waits_any _ _).mono ?_; rintro e w' ⟨rfl, rfl⟩) | (go_at_call 48; refine (on_any _ _).mono ?_; rintro e w' ⟨rfl, rfl⟩))
    (try simp only [Exit.inBlock, Exit.then])
    obtain ⟨g1, g2, g3⟩ := fin (l := [10]) 5 hb1 hn
    refine bodyPost_ret (v := .agg #[_, _]) (results_cell_row rfl _ _ w.heap.size 52 _ (0, 0) _ rfl g3 rfl rfl rfl) rfl ⟨_, _, rfl, g1, g2⟩
  · have hA : actsN 6 10 = [10] := by decide
    have hN : nextN 6 10 = 6 := by decide
    rw [hA, hN]; clear hA hN hs
    go_enter Try.func42, Try.ntmps42
    go_wp2_with (first | (go_at_call 44; refine (to_any _ _ _ _ _).mono ?_; rintro e w' ⟨rfl, hb⟩; obtain ⟨hb1, hn⟩ := row_facts [10] (by decide) hb; obtain ⟨c0, f0, c1, f1⟩ := cell_facts hb1; clear hb) | (go_at_call 47; refine (talks_any _ _).mono ?_; rintro e w' ⟨rfl, rfl⟩) | (go_at_call 32; refine (waits_any _ _).mono ?_; rintro e w' ⟨rfl, rfl⟩) | (go_at_call 48; refine (on_any _ _).mono ?_; rintro e w' ⟨rfl, rfl⟩))
    (try simp only [Exit.inBlock, Exit.then])
    obtain ⟨g1, g2, g3⟩ := fin (l := [10]) 6 hb1 hn
    refine bodyPost_ret (v := .agg #[_, _]) (results_cell_row rfl _ _ w.heap.size 52 _ (0, 0) _ rfl g3 rfl rfl rfl) rfl ⟨_, _, rfl, g1, g2⟩
  · have hA : actsN 7 10 = [10] := by decide
    have hN : nextN 7 10 = 6 := by decide
    rw [hA, hN]; clear hA hN hs
    go_enter Try.func42, Try.ntmps42
    go_wp2_with (first | (go_at_call 44; refine (to_any _ _ _ _ _).mono ?_; rintro e w' ⟨rfl, hb⟩; obtain ⟨hb1, hn⟩ := row_facts [10] (by decide) hb; obtain ⟨c0, f0, c1, f1⟩ := cell_facts hb1; clear hb) | (go_at_call 47; refine (talks_any _ _).mono ?_; rintro e w' ⟨rfl, rfl⟩) | (go_at_call 32; refine (waits_any _ _).mono ?_; rintro e w' ⟨rfl, rfl⟩) | (go_at_call 48; refine (on_any _ _).mono ?_; rintro e w' ⟨rfl, rfl⟩))
    (try simp only [Exit.inBlock, Exit.then])
    obtain ⟨g1, g2, g3⟩ := fin (l := [10]) 6 hb1 hn
    refine bodyPost_ret (v := .agg #[_, _]) (results_cell_row rfl _ _ w.heap.size 52 _ (0, 0) _ rfl g3 rfl rfl rfl) rfl ⟨_, _, rfl, g1, g2⟩
  · have hA : actsN 8 10 = [10] := by decide
    have hN : nextN 8 10 = 6 := by decide
    rw [hA, hN]; clear hA hN hs
    go_enter Try.func42, Try.ntmps42
    go_wp2_with (first | (go_at_call 44; refine (to_any _ _ _ _ _).mono ?_; rintro e w' ⟨rfl, hb⟩; obtain ⟨hb1, hn⟩ := row_facts [10] (by decide) hb; obtain ⟨c0, f0, c1, f1⟩ := cell_facts hb1; clear hb) | (go_at_call 47; refine (talks_any _ _).mono ?_; rintro e w' ⟨rfl, rfl⟩) | (go_at_call 32; refine (waits_any _ _).mono ?_; rintro e w' ⟨rfl, rfl⟩) | (go_at_call 48; refine (on_any _ _).mono ?_; rintro e w' ⟨rfl, rfl⟩))
    (try simp only [Exit.inBlock, Exit.then])
    obtain ⟨g1, g2, g3⟩ := fin (l := [10]) 6 hb1 hn
    refine bodyPost_ret (v := .agg #[_, _]) (results_cell_row rfl _ _ w.heap.size 52 _ (0, 0) _ rfl g3 rfl rfl rfl) rfl ⟨_, _, rfl, g1, g2⟩
  · have hA : actsN 9 10 = [1, 5, 10] := by decide
    have hN : nextN 9 10 = 5 := by decide
    rw [hA, hN]; clear hA hN hs
    go_enter Try.func42, Try.ntmps42
    go_wp2_with (first | (go_at_call 44; refine (to_any _ _ _ _ _).mono ?_; rintro e w' ⟨rfl, hb⟩; obtain ⟨hb1, hn⟩ := row_facts [1, 5, 10] (by decide) hb; obtain ⟨c0, f0, c1, f1⟩ := cell_facts hb1; clear hb) | (go_at_call 47; refine (talks_any _ _).mono ?_; rintro e w' ⟨rfl, rfl⟩) | (go_at_call 32; refine (waits_any _ _).mono ?_; rintro e w' ⟨rfl, rfl⟩) | (go_at_call 48; refine (on_any _ _).mono ?_; rintro e w' ⟨rfl, rfl⟩))
    (try simp only [Exit.inBlock, Exit.then])
    obtain ⟨g1, g2, g3⟩ := fin (l := [1, 5, 10]) 5 hb1 hn
    refine bodyPost_ret (v := .agg #[_, _]) (results_cell_row rfl _ _ w.heap.size 52 _ (0, 0) _ rfl g3 rfl rfl rfl) rfl ⟨_, _, rfl, g1, g2⟩
set_option maxHeartbeats 4000000 in
theorem ended_any (s : Nat) (hs : s ≤ 9) (w : World) :
    Calls Try.prog 43 #[.int .i64 s] w (Did w (actsN s 11) (nextN s 11)) := by
  rcases ten hs with rfl | rfl | rfl | rfl | rfl | rfl | rfl | rfl | rfl | rfl
  · have hA : actsN 0 11 = [] := by decide
    have hN : nextN 0 11 = 0 := by decide
    rw [hA, hN]; clear hA hN hs
    go_enter Try.func43, Try.ntmps43
    go_wp2_with (first | (go_at_call 44; refine (to_any _ _ _ _ _).mono ?_; rintro e w' ⟨rfl, hb1⟩; obtain ⟨c0, f0, c1, f1⟩ := cell_facts hb1; have hn := Nums.nil w' (fresh w).heap.size))
    (try simp only [Exit.inBlock, Exit.then])
    obtain ⟨g1, g2, g3⟩ := fin (l := []) 0 hb1 hn
    refine bodyPost_ret (v := .agg #[_, _]) (results_cell_row rfl _ _ w.heap.size 52 _ (0, 0) _ rfl g3 rfl rfl rfl) rfl ⟨_, _, rfl, g1, g2⟩
  · have hA : actsN 1 11 = [] := by decide
    have hN : nextN 1 11 = 1 := by decide
    rw [hA, hN]; clear hA hN hs
    go_enter Try.func43, Try.ntmps43
    go_wp2_with (first | (go_at_call 44; refine (to_any _ _ _ _ _).mono ?_; rintro e w' ⟨rfl, hb1⟩; obtain ⟨c0, f0, c1, f1⟩ := cell_facts hb1; have hn := Nums.nil w' (fresh w).heap.size))
    (try simp only [Exit.inBlock, Exit.then])
    obtain ⟨g1, g2, g3⟩ := fin (l := []) 1 hb1 hn
    refine bodyPost_ret (v := .agg #[_, _]) (results_cell_row rfl _ _ w.heap.size 52 _ (0, 0) _ rfl g3 rfl rfl rfl) rfl ⟨_, _, rfl, g1, g2⟩
  · have hA : actsN 2 11 = [] := by decide
    have hN : nextN 2 11 = 2 := by decide
    rw [hA, hN]; clear hA hN hs
    go_enter Try.func43, Try.ntmps43
    go_wp2_with (first | (go_at_call 44; refine (to_any _ _ _ _ _).mono ?_; rintro e w' ⟨rfl, hb1⟩; obtain ⟨c0, f0, c1, f1⟩ := cell_facts hb1; have hn := Nums.nil w' (fresh w).heap.size))
    (try simp only [Exit.inBlock, Exit.then])
    obtain ⟨g1, g2, g3⟩ := fin (l := []) 2 hb1 hn
    refine bodyPost_ret (v := .agg #[_, _]) (results_cell_row rfl _ _ w.heap.size 52 _ (0, 0) _ rfl g3 rfl rfl rfl) rfl ⟨_, _, rfl, g1, g2⟩
  · have hA : actsN 3 11 = [] := by decide
    have hN : nextN 3 11 = 3 := by decide
    rw [hA, hN]; clear hA hN hs
    go_enter Try.func43, Try.ntmps43
    go_wp2_with (first | (go_at_call 44; refine (to_any _ _ _ _ _).mono ?_; rintro e w' ⟨rfl, hb1⟩; obtain ⟨c0, f0, c1, f1⟩ := cell_facts hb1; have hn := Nums.nil w' (fresh w).heap.size))
    (try simp only [Exit.inBlock, Exit.then])
    obtain ⟨g1, g2, g3⟩ := fin (l := []) 3 hb1 hn
    refine bodyPost_ret (v := .agg #[_, _]) (results_cell_row rfl _ _ w.heap.size 52 _ (0, 0) _ rfl g3 rfl rfl rfl) rfl ⟨_, _, rfl, g1, g2⟩
  · have hA : actsN 4 11 = [3] := by decide
    have hN : nextN 4 11 = 2 := by decide
    rw [hA, hN]; clear hA hN hs
    go_enter Try.func43, Try.ntmps43
    go_wp2_with (first | (go_at_call 44; refine (to_any _ _ _ _ _).mono ?_; rintro e w' ⟨rfl, hb⟩; obtain ⟨hb1, hn⟩ := row_facts [3] (by decide) hb; obtain ⟨c0, f0, c1, f1⟩ := cell_facts hb1; clear hb))
    (try simp only [Exit.inBlock, Exit.then])
    obtain ⟨g1, g2, g3⟩ := fin (l := [3]) 2 hb1 hn
    refine bodyPost_ret (v := .agg #[_, _]) (results_cell_row rfl _ _ w.heap.size 52 _ (0, 0) _ rfl g3 rfl rfl rfl) rfl ⟨_, _, rfl, g1, g2⟩
  · have hA : actsN 5 11 = [3] := by decide
    have hN : nextN 5 11 = 3 := by decide
    rw [hA, hN]; clear hA hN hs
    go_enter Try.func43, Try.ntmps43
    go_wp2_with (first | (go_at_call 44; refine (to_any _ _ _ _ _).mono ?_; rintro e w' ⟨rfl, hb⟩; obtain ⟨hb1, hn⟩ := row_facts [3] (by decide) hb; obtain ⟨c0, f0, c1, f1⟩ := cell_facts hb1; clear hb))
    (try simp only [Exit.inBlock, Exit.then])
    obtain ⟨g1, g2, g3⟩ := fin (l := [3]) 3 hb1 hn
    refine bodyPost_ret (v := .agg #[_, _]) (results_cell_row rfl _ _ w.heap.size 52 _ (0, 0) _ rfl g3 rfl rfl rfl) rfl ⟨_, _, rfl, g1, g2⟩
  · have hA : actsN 6 11 = [] := by decide
    have hN : nextN 6 11 = 6 := by decide
    rw [hA, hN]; clear hA hN hs
    go_enter Try.func43, Try.ntmps43
    go_wp2_with (first | (go_at_call 44; refine (to_any _ _ _ _ _).mono ?_; rintro e w' ⟨rfl, hb1⟩; obtain ⟨c0, f0, c1, f1⟩ := cell_facts hb1; have hn := Nums.nil w' (fresh w).heap.size))
    (try simp only [Exit.inBlock, Exit.then])
    obtain ⟨g1, g2, g3⟩ := fin (l := []) 6 hb1 hn
    refine bodyPost_ret (v := .agg #[_, _]) (results_cell_row rfl _ _ w.heap.size 52 _ (0, 0) _ rfl g3 rfl rfl rfl) rfl ⟨_, _, rfl, g1, g2⟩
  · have hA : actsN 7 11 = [] := by decide
    have hN : nextN 7 11 = 6 := by decide
    rw [hA, hN]; clear hA hN hs
    go_enter Try.func43, Try.ntmps43
    go_wp2_with (first | (go_at_call 44; refine (to_any _ _ _ _ _).mono ?_; rintro e w' ⟨rfl, hb1⟩; obtain ⟨c0, f0, c1, f1⟩ := cell_facts hb1; have hn := Nums.nil w' (fresh w).heap.size))
    (try simp only [Exit.inBlock, Exit.then])
    obtain ⟨g1, g2, g3⟩ := fin (l := []) 6 hb1 hn
    refine bodyPost_ret (v := .agg #[_, _]) (results_cell_row rfl _ _ w.heap.size 52 _ (0, 0) _ rfl g3 rfl rfl rfl) rfl ⟨_, _, rfl, g1, g2⟩
  · have hA : actsN 8 11 = [] := by decide
    have hN : nextN 8 11 = 8 := by decide
    rw [hA, hN]; clear hA hN hs
    go_enter Try.func43, Try.ntmps43
    go_wp2_with (first | (go_at_call 44; refine (to_any _ _ _ _ _).mono ?_; rintro e w' ⟨rfl, hb1⟩; obtain ⟨c0, f0, c1, f1⟩ := cell_facts hb1; have hn := Nums.nil w' (fresh w).heap.size))
    (try simp only [Exit.inBlock, Exit.then])
    obtain ⟨g1, g2, g3⟩ := fin (l := []) 8 hb1 hn
    refine bodyPost_ret (v := .agg #[_, _]) (results_cell_row rfl _ _ w.heap.size 52 _ (0, 0) _ rfl g3 rfl rfl rfl) rfl ⟨_, _, rfl, g1, g2⟩
  · have hA : actsN 9 11 = [1, 6] := by decide
    have hN : nextN 9 11 = 6 := by decide
    rw [hA, hN]; clear hA hN hs
    go_enter Try.func43, Try.ntmps43
    go_wp2_with (first | (go_at_call 44; refine (to_any _ _ _ _ _).mono ?_; rintro e w' ⟨rfl, hb⟩; obtain ⟨hb1, hn⟩ := row_facts [1, 6] (by decide) hb; obtain ⟨c0, f0, c1, f1⟩ := cell_facts hb1; clear hb))
    (try simp only [Exit.inBlock, Exit.then])
    obtain ⟨g1, g2, g3⟩ := fin (l := [1, 6]) 6 hb1 hn
    refine bodyPost_ret (v := .agg #[_, _]) (results_cell_row rfl _ _ w.heap.size 52 _ (0, 0) _ rfl g3 rfl rfl rfl) rfl ⟨_, _, rfl, g1, g2⟩
set_option maxHeartbeats 4000000 in
theorem rejected_any (s : Nat) (hs : s ≤ 9) (w : World) :
    Calls Try.prog 45 #[.int .i64 s] w (Did w (actsN s 14) (nextN s 14)) := by
  rcases ten hs with rfl | rfl | rfl | rfl | rfl | rfl | rfl | rfl | rfl | rfl
  · have hA : actsN 0 14 = [] := by decide
    have hN : nextN 0 14 = 0 := by decide
    rw [hA, hN]; clear hA hN hs
    go_enter Try.func45, Try.ntmps45
    go_wp2_with (first | (go_at_call 44; refine (to_any _ _ _ _ _).mono ?_; rintro e w' ⟨rfl, hb1⟩; obtain ⟨c0, f0, c1, f1⟩ := cell_facts hb1; have hn := Nums.nil w' (fresh w).heap.size))
    (try simp only [Exit.inBlock, Exit.then])
    obtain ⟨g1, g2, g3⟩ := fin (l := []) 0 hb1 hn
    refine bodyPost_ret (v := .agg #[_, _]) (results_cell_row rfl _ _ w.heap.size 52 _ (0, 0) _ rfl g3 rfl rfl rfl) rfl ⟨_, _, rfl, g1, g2⟩
  · have hA : actsN 1 14 = [] := by decide
    have hN : nextN 1 14 = 1 := by decide
    rw [hA, hN]; clear hA hN hs
    go_enter Try.func45, Try.ntmps45
    go_wp2_with (first | (go_at_call 44; refine (to_any _ _ _ _ _).mono ?_; rintro e w' ⟨rfl, hb1⟩; obtain ⟨c0, f0, c1, f1⟩ := cell_facts hb1; have hn := Nums.nil w' (fresh w).heap.size))
    (try simp only [Exit.inBlock, Exit.then])
    obtain ⟨g1, g2, g3⟩ := fin (l := []) 1 hb1 hn
    refine bodyPost_ret (v := .agg #[_, _]) (results_cell_row rfl _ _ w.heap.size 52 _ (0, 0) _ rfl g3 rfl rfl rfl) rfl ⟨_, _, rfl, g1, g2⟩
  · have hA : actsN 2 14 = [3] := by decide
    have hN : nextN 2 14 = 2 := by decide
    rw [hA, hN]; clear hA hN hs
    go_enter Try.func45, Try.ntmps45
    go_wp2_with (first | (go_at_call 44; refine (to_any _ _ _ _ _).mono ?_; rintro e w' ⟨rfl, hb⟩; obtain ⟨hb1, hn⟩ := row_facts [3] (by decide) hb; obtain ⟨c0, f0, c1, f1⟩ := cell_facts hb1; clear hb))
    (try simp only [Exit.inBlock, Exit.then])
    obtain ⟨g1, g2, g3⟩ := fin (l := [3]) 2 hb1 hn
    refine bodyPost_ret (v := .agg #[_, _]) (results_cell_row rfl _ _ w.heap.size 52 _ (0, 0) _ rfl g3 rfl rfl rfl) rfl ⟨_, _, rfl, g1, g2⟩
  · have hA : actsN 3 14 = [3] := by decide
    have hN : nextN 3 14 = 3 := by decide
    rw [hA, hN]; clear hA hN hs
    go_enter Try.func45, Try.ntmps45
    go_wp2_with (first | (go_at_call 44; refine (to_any _ _ _ _ _).mono ?_; rintro e w' ⟨rfl, hb⟩; obtain ⟨hb1, hn⟩ := row_facts [3] (by decide) hb; obtain ⟨c0, f0, c1, f1⟩ := cell_facts hb1; clear hb))
    (try simp only [Exit.inBlock, Exit.then])
    obtain ⟨g1, g2, g3⟩ := fin (l := [3]) 3 hb1 hn
    refine bodyPost_ret (v := .agg #[_, _]) (results_cell_row rfl _ _ w.heap.size 52 _ (0, 0) _ rfl g3 rfl rfl rfl) rfl ⟨_, _, rfl, g1, g2⟩
  · have hA : actsN 4 14 = [3] := by decide
    have hN : nextN 4 14 = 2 := by decide
    rw [hA, hN]; clear hA hN hs
    go_enter Try.func45, Try.ntmps45
    go_wp2_with (first | (go_at_call 44; refine (to_any _ _ _ _ _).mono ?_; rintro e w' ⟨rfl, hb⟩; obtain ⟨hb1, hn⟩ := row_facts [3] (by decide) hb; obtain ⟨c0, f0, c1, f1⟩ := cell_facts hb1; clear hb))
    (try simp only [Exit.inBlock, Exit.then])
    obtain ⟨g1, g2, g3⟩ := fin (l := [3]) 2 hb1 hn
    refine bodyPost_ret (v := .agg #[_, _]) (results_cell_row rfl _ _ w.heap.size 52 _ (0, 0) _ rfl g3 rfl rfl rfl) rfl ⟨_, _, rfl, g1, g2⟩
  · have hA : actsN 5 14 = [3] := by decide
    have hN : nextN 5 14 = 3 := by decide
    rw [hA, hN]; clear hA hN hs
    go_enter Try.func45, Try.ntmps45
    go_wp2_with (first | (go_at_call 44; refine (to_any _ _ _ _ _).mono ?_; rintro e w' ⟨rfl, hb⟩; obtain ⟨hb1, hn⟩ := row_facts [3] (by decide) hb; obtain ⟨c0, f0, c1, f1⟩ := cell_facts hb1; clear hb))
    (try simp only [Exit.inBlock, Exit.then])
    obtain ⟨g1, g2, g3⟩ := fin (l := [3]) 3 hb1 hn
    refine bodyPost_ret (v := .agg #[_, _]) (results_cell_row rfl _ _ w.heap.size 52 _ (0, 0) _ rfl g3 rfl rfl rfl) rfl ⟨_, _, rfl, g1, g2⟩
  · have hA : actsN 6 14 = [3] := by decide
    have hN : nextN 6 14 = 3 := by decide
    rw [hA, hN]; clear hA hN hs
    go_enter Try.func45, Try.ntmps45
    go_wp2_with (first | (go_at_call 44; refine (to_any _ _ _ _ _).mono ?_; rintro e w' ⟨rfl, hb⟩; obtain ⟨hb1, hn⟩ := row_facts [3] (by decide) hb; obtain ⟨c0, f0, c1, f1⟩ := cell_facts hb1; clear hb))
    (try simp only [Exit.inBlock, Exit.then])
    obtain ⟨g1, g2, g3⟩ := fin (l := [3]) 3 hb1 hn
    refine bodyPost_ret (v := .agg #[_, _]) (results_cell_row rfl _ _ w.heap.size 52 _ (0, 0) _ rfl g3 rfl rfl rfl) rfl ⟨_, _, rfl, g1, g2⟩
  · have hA : actsN 7 14 = [3] := by decide
    have hN : nextN 7 14 = 3 := by decide
    rw [hA, hN]; clear hA hN hs
    go_enter Try.func45, Try.ntmps45
    go_wp2_with (first | (go_at_call 44; refine (to_any _ _ _ _ _).mono ?_; rintro e w' ⟨rfl, hb⟩; obtain ⟨hb1, hn⟩ := row_facts [3] (by decide) hb; obtain ⟨c0, f0, c1, f1⟩ := cell_facts hb1; clear hb))
    (try simp only [Exit.inBlock, Exit.then])
    obtain ⟨g1, g2, g3⟩ := fin (l := [3]) 3 hb1 hn
    refine bodyPost_ret (v := .agg #[_, _]) (results_cell_row rfl _ _ w.heap.size 52 _ (0, 0) _ rfl g3 rfl rfl rfl) rfl ⟨_, _, rfl, g1, g2⟩
  · have hA : actsN 8 14 = [3] := by decide
    have hN : nextN 8 14 = 3 := by decide
    rw [hA, hN]; clear hA hN hs
    go_enter Try.func45, Try.ntmps45
    go_wp2_with (first | (go_at_call 44; refine (to_any _ _ _ _ _).mono ?_; rintro e w' ⟨rfl, hb⟩; obtain ⟨hb1, hn⟩ := row_facts [3] (by decide) hb; obtain ⟨c0, f0, c1, f1⟩ := cell_facts hb1; clear hb))
    (try simp only [Exit.inBlock, Exit.then])
    obtain ⟨g1, g2, g3⟩ := fin (l := [3]) 3 hb1 hn
    refine bodyPost_ret (v := .agg #[_, _]) (results_cell_row rfl _ _ w.heap.size 52 _ (0, 0) _ rfl g3 rfl rfl rfl) rfl ⟨_, _, rfl, g1, g2⟩
  · have hA : actsN 9 14 = [1, 4, 9] := by decide
    have hN : nextN 9 14 = 5 := by decide
    rw [hA, hN]; clear hA hN hs
    go_enter Try.func45, Try.ntmps45
    go_wp2_with (first | (go_at_call 44; refine (to_any _ _ _ _ _).mono ?_; rintro e w' ⟨rfl, hb⟩; obtain ⟨hb1, hn⟩ := row_facts [1, 4, 9] (by decide) hb; obtain ⟨c0, f0, c1, f1⟩ := cell_facts hb1; clear hb))
    (try simp only [Exit.inBlock, Exit.then])
    obtain ⟨g1, g2, g3⟩ := fin (l := [1, 4, 9]) 5 hb1 hn
    refine bodyPost_ret (v := .agg #[_, _]) (results_cell_row rfl _ _ w.heap.size 52 _ (0, 0) _ rfl g3 rfl rfl rfl) rfl ⟨_, _, rfl, g1, g2⟩
end Go.Proofs.Ytjcigaonadkhkaa
