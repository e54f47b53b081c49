/-
  The walks of fsm.step and fsm.Step: any event, any state.
-/
import Derived.Test.YtjcigaonadkhkaaFsmActs2
namespace Go.Proofs.Ytjcigaonadkhkaa
open Go.RowKit
/-- the three ways out of a piece of code, as posts that the walk doesn't open: many blocks in one another are left one by one -/
def RetP (G : Act → World → Prop) : Exit → Act → World → Prop := fun e a w => e = .ret ∧ G a w
def ExP (k : Nat) (G : Act → World → Prop) : Exit → Act → World → Prop := fun e a w => e = .exit k ∧ G a w
def NormP (G : Act → World → Prop) : Exit → Act → World → Prop := fun e a w => e = .normal ∧ G a w
section
variable {P : Program} {x y : Code} {a : Act} {w : World} {Q : Exit → Act → World → Prop} {G : Act → World → Prop} {j k : Nat}
theorem to_ret (h : ∀ G : Act → World → Prop, (∀ a w, Q .ret a w → G a w) → x.wp P (RetP G) a w) : x.wp P Q a w :=
  wp_mono (h (Q .ret) fun _ _ h => h) (by rintro e a w ⟨rfl, h⟩; exact h)
theorem seq_ret (h : x.wp P (RetP G) a w) : (Code.seq x y).wp P (RetP G) a w := wp_seq (wp_mono h (by rintro e a w ⟨rfl, h⟩; exact ⟨rfl, h⟩))
theorem block_ret (h : x.wp P (RetP G) a w) : (Code.block k x).wp P (RetP G) a w := wp_block (wp_mono h (by rintro e a w ⟨rfl, h⟩; exact ⟨rfl, h⟩))
theorem seq_ex (h : x.wp P (ExP k G) a w) : (Code.seq x y).wp P (ExP k G) a w := wp_seq (wp_mono h (by rintro e a w ⟨rfl, h⟩; exact ⟨rfl, h⟩))
theorem block_ex (hj : k ≠ j) (h : x.wp P (ExP k G) a w) : (Code.block j x).wp P (ExP k G) a w :=
  wp_block (wp_mono h (by rintro e a w ⟨rfl, h⟩; simp only [Exit.inBlock, if_neg hj]; exact ⟨rfl, h⟩))
theorem seq_norm (h : ∀ G : Act → World → Prop, (∀ a w, y.wp P Q a w → G a w) → x.wp P (NormP G) a w) : (Code.seq x y).wp P Q a w :=
  wp_seq (wp_mono (h (y.wp P Q) fun _ _ h => h) (by rintro e a w ⟨rfl, h⟩; exact h))
theorem seq_hit (h : ∀ G : Act → World → Prop, (∀ a w, y.wp P Q a w → G a w) → x.wp P (ExP k G) a w) : (Code.seq (Code.block k x) y).wp P Q a w :=
  wp_seq (wp_block (wp_mono (h (y.wp P Q) fun _ _ h => h) (by rintro e a w ⟨rfl, h⟩; simp only [Exit.inBlock, if_true]; exact h)))
theorem block_hit (h : ∀ G : Act → World → Prop, (∀ a w, Q .normal a w → G a w) → x.wp P (ExP k G) a w) : (Code.block k x).wp P Q a w :=
  wp_block (wp_mono (h (Q .normal) fun _ _ h => h) (by rintro e a w ⟨rfl, h⟩; simp only [Exit.inBlock, if_true]; exact h))
end
set_option maxHeartbeats 200000 in
theorem step0_any (s : Nat) (hs : s ≤ 9) (w : World) : Calls Try.prog 27 #[.int .i64 s, .int .i64 0] w (Did w (actsN s 0) (nextN s 0)) := by
  have hc := up_any _ hs (fresh w)
  generalize actsN s 0 = l at *
  generalize nextN s 0 = n at *
  go_enter Try.func27, Try.ntmps27
  refine seq_norm fun G h => ?_
  go_wp2
  refine ⟨rfl, h _ _ ?_⟩
  clear h
  refine to_ret fun G0 hG0 => ?_
  refine seq_ret ?_
  refine seq_norm fun G h => ?_
  go_wp2
  refine ⟨rfl, h _ _ ?_⟩
  clear h
  refine block_ret ?_
  refine seq_ret (block_ret ?_)
  refine seq_ret (block_ret ?_)
  refine seq_ret (block_ret ?_)
  refine seq_ret (block_ret ?_)
  refine seq_ret (block_ret ?_)
  refine seq_ret (block_ret ?_)
  refine seq_ret (block_ret ?_)
  refine seq_ret (block_ret ?_)
  refine seq_ret (block_ret ?_)
  refine seq_ret (block_ret ?_)
  refine seq_ret (block_ret ?_)
  refine seq_ret (block_ret ?_)
  refine seq_ret (block_ret ?_)
  refine seq_ret (block_ret ?_)
  refine seq_ret (block_ret ?_)
  refine seq_hit fun G h => ?_
  go_wp2
  refine ⟨rfl, h _ _ ?_⟩
  clear h
  go_wp2_with (go_at_call 34; refine hc.mono ?_; rintro e w' ⟨a, k, rfl, hn, hb1⟩; obtain ⟨c0, f0, c1, f1⟩ := cell_facts hb1)
  refine ⟨rfl, hG0 _ _ ?_⟩
  obtain ⟨g1, g2, g3⟩ := fin n hb1 hn
  refine bodyPost_ret (v := .agg #[_, _]) (results_cell_row rfl _ _ w.heap.size 52 _ (0, 0) _ rfl g3 rfl rfl rfl) rfl ⟨_, _, rfl, g1, g2⟩
set_option maxHeartbeats 200000 in
theorem step1_any (s : Nat) (hs : s ≤ 9) (w : World) : Calls Try.prog 27 #[.int .i64 s, .int .i64 1] w (Did w (actsN s 1) (nextN s 1)) := by
  have hc := down_any _ hs (fresh w)
  generalize actsN s 1 = l at *
  generalize nextN s 1 = n at *
  go_enter Try.func27, Try.ntmps27
  refine seq_norm fun G h => ?_
  go_wp2
  refine ⟨rfl, h _ _ ?_⟩
  clear h
  refine to_ret fun G0 hG0 => ?_
  refine seq_ret ?_
  refine seq_norm fun G h => ?_
  go_wp2
  refine ⟨rfl, h _ _ ?_⟩
  clear h
  refine block_ret ?_
  refine seq_ret (block_ret ?_)
  refine seq_ret (block_ret ?_)
  refine seq_ret (block_ret ?_)
  refine seq_ret (block_ret ?_)
  refine seq_ret (block_ret ?_)
  refine seq_ret (block_ret ?_)
  refine seq_ret (block_ret ?_)
  refine seq_ret (block_ret ?_)
  refine seq_ret (block_ret ?_)
  refine seq_ret (block_ret ?_)
  refine seq_ret (block_ret ?_)
  refine seq_ret (block_ret ?_)
  refine seq_ret (block_ret ?_)
  refine seq_ret (block_ret ?_)
  refine seq_hit fun G h => ?_
  refine seq_ex (block_ex (by decide) ?_)
  go_wp2
  refine ⟨rfl, h _ _ ?_⟩
  clear h
  go_wp2_with (go_at_call 35; refine hc.mono ?_; rintro e w' ⟨a, k, rfl, hn, hb1⟩; obtain ⟨c0, f0, c1, f1⟩ := cell_facts hb1)
  refine ⟨rfl, hG0 _ _ ?_⟩
  obtain ⟨g1, g2, g3⟩ := fin n hb1 hn
  refine bodyPost_ret (v := .agg #[_, _]) (results_cell_row rfl _ _ w.heap.size 52 _ (0, 0) _ rfl g3 rfl rfl rfl) rfl ⟨_, _, rfl, g1, g2⟩
set_option maxHeartbeats 200000 in
theorem step2_any (s : Nat) (hs : s ≤ 9) (w : World) : Calls Try.prog 27 #[.int .i64 s, .int .i64 2] w (Did w (actsN s 2) (nextN s 2)) := by
  have hc := open_any _ hs (fresh w)
  generalize actsN s 2 = l at *
  generalize nextN s 2 = n at *
  go_enter Try.func27, Try.ntmps27
  refine seq_norm fun G h => ?_
  go_wp2
  refine ⟨rfl, h _ _ ?_⟩
  clear h
  refine to_ret fun G0 hG0 => ?_
  refine seq_ret ?_
  refine seq_norm fun G h => ?_
  go_wp2
  refine ⟨rfl, h _ _ ?_⟩
  clear h
  refine block_ret ?_
  refine seq_ret (block_ret ?_)
  refine seq_ret (block_ret ?_)
  refine seq_ret (block_ret ?_)
  refine seq_ret (block_ret ?_)
  refine seq_ret (block_ret ?_)
  refine seq_ret (block_ret ?_)
  refine seq_ret (block_ret ?_)
  refine seq_ret (block_ret ?_)
  refine seq_ret (block_ret ?_)
  refine seq_ret (block_ret ?_)
  refine seq_ret (block_ret ?_)
  refine seq_ret (block_ret ?_)
  refine seq_ret (block_ret ?_)
  refine seq_hit fun G h => ?_
  refine seq_ex (block_ex (by decide) ?_)
  refine seq_ex (block_ex (by decide) ?_)
  go_wp2
  refine ⟨rfl, h _ _ ?_⟩
  clear h
  go_wp2_with (go_at_call 36; refine hc.mono ?_; rintro e w' ⟨a, k, rfl, hn, hb1⟩; obtain ⟨c0, f0, c1, f1⟩ := cell_facts hb1)
  refine ⟨rfl, hG0 _ _ ?_⟩
  obtain ⟨g1, g2, g3⟩ := fin n hb1 hn
  refine bodyPost_ret (v := .agg #[_, _]) (results_cell_row rfl _ _ w.heap.size 52 _ (0, 0) _ rfl g3 rfl rfl rfl) rfl ⟨_, _, rfl, g1, g2⟩
set_option maxHeartbeats 200000 in
theorem step3_any (s : Nat) (hs : s ≤ 9) (w : World) : Calls Try.prog 27 #[.int .i64 s, .int .i64 3] w (Did w (actsN s 3) (nextN s 3)) := by
  have hc := closes_any _ hs (fresh w)
  generalize actsN s 3 = l at *
  generalize nextN s 3 = n at *
  go_enter Try.func27, Try.ntmps27
  refine seq_norm fun G h => ?_
  go_wp2
  refine ⟨rfl, h _ _ ?_⟩
  clear h
  refine to_ret fun G0 hG0 => ?_
  refine seq_ret ?_
  refine seq_norm fun G h => ?_
  go_wp2
  refine ⟨rfl, h _ _ ?_⟩
  clear h
  refine block_ret ?_
  refine seq_ret (block_ret ?_)
  refine seq_ret (block_ret ?_)
  refine seq_ret (block_ret ?_)
  refine seq_ret (block_ret ?_)
  refine seq_ret (block_ret ?_)
  refine seq_ret (block_ret ?_)
  refine seq_ret (block_ret ?_)
  refine seq_ret (block_ret ?_)
  refine seq_ret (block_ret ?_)
  refine seq_ret (block_ret ?_)
  refine seq_ret (block_ret ?_)
  refine seq_ret (block_ret ?_)
  refine seq_hit fun G h => ?_
  refine seq_ex (block_ex (by decide) ?_)
  refine seq_ex (block_ex (by decide) ?_)
  refine seq_ex (block_ex (by decide) ?_)
  go_wp2
  refine ⟨rfl, h _ _ ?_⟩
  clear h
  go_wp2_with (go_at_call 37; refine hc.mono ?_; rintro e w' ⟨a, k, rfl, hn, hb1⟩; obtain ⟨c0, f0, c1, f1⟩ := cell_facts hb1)
  refine ⟨rfl, hG0 _ _ ?_⟩
  obtain ⟨g1, g2, g3⟩ := fin n hb1 hn
  refine bodyPost_ret (v := .agg #[_, _]) (results_cell_row rfl _ _ w.heap.size 52 _ (0, 0) _ rfl g3 rfl rfl rfl) rfl ⟨_, _, rfl, g1, g2⟩
set_option maxHeartbeats 200000 in
theorem step4_any (s : Nat) (hs : s ≤ 9) (w : World) : Calls Try.prog 27 #[.int .i64 s, .int .i64 4] w (Did w (actsN s 4) (nextN s 4)) := by
  have hc := again_any _ hs (fresh w)
  generalize actsN s 4 = l at *
  generalize nextN s 4 = n at *
  go_enter Try.func27, Try.ntmps27
  refine seq_norm fun G h => ?_
  go_wp2
  refine ⟨rfl, h _ _ ?_⟩
  clear h
  refine to_ret fun G0 hG0 => ?_
  refine seq_ret ?_
  refine seq_norm fun G h => ?_
  go_wp2
  refine ⟨rfl, h _ _ ?_⟩
  clear h
  refine block_ret ?_
  refine seq_ret (block_ret ?_)
  refine seq_ret (block_ret ?_)
  refine seq_ret (block_ret ?_)
  refine seq_ret (block_ret ?_)
  refine seq_ret (block_ret ?_)
  refine seq_ret (block_ret ?_)
  refine seq_ret (block_ret ?_)
  refine seq_ret (block_ret ?_)
  refine seq_ret (block_ret ?_)
  refine seq_ret (block_ret ?_)
  refine seq_ret (block_ret ?_)
  refine seq_hit fun G h => ?_
  refine seq_ex (block_ex (by decide) ?_)
  refine seq_ex (block_ex (by decide) ?_)
  refine seq_ex (block_ex (by decide) ?_)
  refine seq_ex (block_ex (by decide) ?_)
  go_wp2
  refine ⟨rfl, h _ _ ?_⟩
  clear h
  go_wp2_with (go_at_call 38; refine hc.mono ?_; rintro e w' ⟨a, k, rfl, hn, hb1⟩; obtain ⟨c0, f0, c1, f1⟩ := cell_facts hb1)
  refine ⟨rfl, hG0 _ _ ?_⟩
  obtain ⟨g1, g2, g3⟩ := fin n hb1 hn
  refine bodyPost_ret (v := .agg #[_, _]) (results_cell_row rfl _ _ w.heap.size 52 _ (0, 0) _ rfl g3 rfl rfl rfl) rfl ⟨_, _, rfl, g1, g2⟩
set_option maxHeartbeats 200000 in
theorem step5_any (s : Nat) (hs : s ≤ 9) (w : World) : Calls Try.prog 27 #[.int .i64 s, .int .i64 5] w (Did w (actsN s 5) (nextN s 5)) := by
  have hc := over_any _ hs (fresh w)
  generalize actsN s 5 = l at *
  generalize nextN s 5 = n at *
  go_enter Try.func27, Try.ntmps27
  refine seq_norm fun G h => ?_
  go_wp2
  refine ⟨rfl, h _ _ ?_⟩
  clear h
  refine to_ret fun G0 hG0 => ?_
  refine seq_ret ?_
  refine seq_norm fun G h => ?_
  go_wp2
  refine ⟨rfl, h _ _ ?_⟩
  clear h
  refine block_ret ?_
  refine seq_ret (block_ret ?_)
  refine seq_ret (block_ret ?_)
  refine seq_ret (block_ret ?_)
  refine seq_ret (block_ret ?_)
  refine seq_ret (block_ret ?_)
  refine seq_ret (block_ret ?_)
  refine seq_ret (block_ret ?_)
  refine seq_ret (block_ret ?_)
  refine seq_ret (block_ret ?_)
  refine seq_ret (block_ret ?_)
  refine seq_hit fun G h => ?_
  refine seq_ex (block_ex (by decide) ?_)
  refine seq_ex (block_ex (by decide) ?_)
  refine seq_ex (block_ex (by decide) ?_)
  refine seq_ex (block_ex (by decide) ?_)
  refine seq_ex (block_ex (by decide) ?_)
  go_wp2
  refine ⟨rfl, h _ _ ?_⟩
  clear h
  go_wp2_with (go_at_call 39; refine hc.mono ?_; rintro e w' ⟨a, k, rfl, hn, hb1⟩; obtain ⟨c0, f0, c1, f1⟩ := cell_facts hb1)
  refine ⟨rfl, hG0 _ _ ?_⟩
  obtain ⟨g1, g2, g3⟩ := fin n hb1 hn
  refine bodyPost_ret (v := .agg #[_, _]) (results_cell_row rfl _ _ w.heap.size 52 _ (0, 0) _ rfl g3 rfl rfl rfl) rfl ⟨_, _, rfl, g1, g2⟩
set_option maxHeartbeats 200000 in
theorem step6_any (s : Nat) (hs : s ≤ 9) (w : World) : Calls Try.prog 27 #[.int .i64 s, .int .i64 6] w (Did w (actsN s 6) (nextN s 6)) := by
  have hc := good_any _ hs (fresh w)
  generalize actsN s 6 = l at *
  generalize nextN s 6 = n at *
  go_enter Try.func27, Try.ntmps27
  refine seq_norm fun G h => ?_
  go_wp2
  refine ⟨rfl, h _ _ ?_⟩
  clear h
  refine to_ret fun G0 hG0 => ?_
  refine seq_ret ?_
  refine seq_norm fun G h => ?_
  go_wp2
  refine ⟨rfl, h _ _ ?_⟩
  clear h
  refine block_ret ?_
  refine seq_ret (block_ret ?_)
  refine seq_ret (block_ret ?_)
  refine seq_ret (block_ret ?_)
  refine seq_ret (block_ret ?_)
  refine seq_ret (block_ret ?_)
  refine seq_ret (block_ret ?_)
  refine seq_ret (block_ret ?_)
  refine seq_ret (block_ret ?_)
  refine seq_ret (block_ret ?_)
  refine seq_hit fun G h => ?_
  refine seq_ex (block_ex (by decide) ?_)
  refine seq_ex (block_ex (by decide) ?_)
  refine seq_ex (block_ex (by decide) ?_)
  refine seq_ex (block_ex (by decide) ?_)
  refine seq_ex (block_ex (by decide) ?_)
  refine seq_ex (block_ex (by decide) ?_)
  go_wp2
  refine ⟨rfl, h _ _ ?_⟩
  clear h
  go_wp2_with (go_at_call 40; refine hc.mono ?_; rintro e w' ⟨a, k, rfl, hn, hb1⟩; obtain ⟨c0, f0, c1, f1⟩ := cell_facts hb1)
  refine ⟨rfl, hG0 _ _ ?_⟩
  obtain ⟨g1, g2, g3⟩ := fin n hb1 hn
  refine bodyPost_ret (v := .agg #[_, _]) (results_cell_row rfl _ _ w.heap.size 52 _ (0, 0) _ rfl g3 rfl rfl rfl) rfl ⟨_, _, rfl, g1, g2⟩
set_option maxHeartbeats 200000 in
theorem step7_any (s : Nat) (hs : s ≤ 9) (w : World) : Calls Try.prog 27 #[.int .i64 s, .int .i64 7] w (Did w (actsN s 7) (nextN s 7)) := by
  have hc := bad_any _ hs (fresh w)
  generalize actsN s 7 = l at *
  generalize nextN s 7 = n at *
  go_enter Try.func27, Try.ntmps27
  refine seq_norm fun G h => ?_
  go_wp2
  refine ⟨rfl, h _ _ ?_⟩
  clear h
  refine to_ret fun G0 hG0 => ?_
  refine seq_ret ?_
  refine seq_norm fun G h => ?_
  go_wp2
  refine ⟨rfl, h _ _ ?_⟩
  clear h
  refine block_ret ?_
  refine seq_ret (block_ret ?_)
  refine seq_ret (block_ret ?_)
  refine seq_ret (block_ret ?_)
  refine seq_ret (block_ret ?_)
  refine seq_ret (block_ret ?_)
  refine seq_ret (block_ret ?_)
  refine seq_ret (block_ret ?_)
  refine seq_ret (block_ret ?_)
  refine seq_hit fun G h => ?_
  refine seq_ex (block_ex (by decide) ?_)
  refine seq_ex (block_ex (by decide) ?_)
  refine seq_ex (block_ex (by decide) ?_)
  refine seq_ex (block_ex (by decide) ?_)
  refine seq_ex (block_ex (by decide) ?_)
  refine seq_ex (block_ex (by decide) ?_)
  refine seq_ex (block_ex (by decide) ?_)
  go_wp2
  refine ⟨rfl, h _ _ ?_⟩
  clear h
  go_wp2_with (go_at_call 40; refine hc.mono ?_; rintro e w' ⟨a, k, rfl, hn, hb1⟩; obtain ⟨c0, f0, c1, f1⟩ := cell_facts hb1)
  refine ⟨rfl, hG0 _ _ ?_⟩
  obtain ⟨g1, g2, g3⟩ := fin n hb1 hn
  refine bodyPost_ret (v := .agg #[_, _]) (results_cell_row rfl _ _ w.heap.size 52 _ (0, 0) _ rfl g3 rfl rfl rfl) rfl ⟨_, _, rfl, g1, g2⟩
set_option maxHeartbeats 200000 in
theorem step8_any (s : Nat) (hs : s ≤ 9) (w : World) : Calls Try.prog 27 #[.int .i64 s, .int .i64 8] w (Did w (actsN s 8) (nextN s 8)) := by
  have hc := ack_any _ hs (fresh w)
  generalize actsN s 8 = l at *
  generalize nextN s 8 = n at *
  go_enter Try.func27, Try.ntmps27
  refine seq_norm fun G h => ?_
  go_wp2
  refine ⟨rfl, h _ _ ?_⟩
  clear h
  refine to_ret fun G0 hG0 => ?_
  refine seq_ret ?_
  refine seq_norm fun G h => ?_
  go_wp2
  refine ⟨rfl, h _ _ ?_⟩
  clear h
  refine block_ret ?_
  refine seq_ret (block_ret ?_)
  refine seq_ret (block_ret ?_)
  refine seq_ret (block_ret ?_)
  refine seq_ret (block_ret ?_)
  refine seq_ret (block_ret ?_)
  refine seq_ret (block_ret ?_)
  refine seq_ret (block_ret ?_)
  refine seq_hit fun G h => ?_
  refine seq_ex (block_ex (by decide) ?_)
  refine seq_ex (block_ex (by decide) ?_)
  refine seq_ex (block_ex (by decide) ?_)
  refine seq_ex (block_ex (by decide) ?_)
  refine seq_ex (block_ex (by decide) ?_)
  refine seq_ex (block_ex (by decide) ?_)
  refine seq_ex (block_ex (by decide) ?_)
  refine seq_ex (block_ex (by decide) ?_)
  go_wp2
  refine ⟨rfl, h _ _ ?_⟩
  clear h
  go_wp2_with (go_at_call 41; refine hc.mono ?_; rintro e w' ⟨a, k, rfl, hn, hb1⟩; obtain ⟨c0, f0, c1, f1⟩ := cell_facts hb1)
  refine ⟨rfl, hG0 _ _ ?_⟩
  obtain ⟨g1, g2, g3⟩ := fin n hb1 hn
  refine bodyPost_ret (v := .agg #[_, _]) (results_cell_row rfl _ _ w.heap.size 52 _ (0, 0) _ rfl g3 rfl rfl rfl) rfl ⟨_, _, rfl, g1, g2⟩
set_option maxHeartbeats 200000 in
theorem step9_any (s : Nat) (hs : s ≤ 9) (w : World) : Calls Try.prog 27 #[.int .i64 s, .int .i64 9] w (Did w (actsN s 9) (nextN s 9)) := by
  have hc := nak_any _ hs (fresh w)
  generalize actsN s 9 = l at *
  generalize nextN s 9 = n at *
  go_enter Try.func27, Try.ntmps27
  refine seq_norm fun G h => ?_
  go_wp2
  refine ⟨rfl, h _ _ ?_⟩
  clear h
  refine to_ret fun G0 hG0 => ?_
  refine seq_ret ?_
  refine seq_norm fun G h => ?_
  go_wp2
  refine ⟨rfl, h _ _ ?_⟩
  clear h
  refine block_ret ?_
  refine seq_ret (block_ret ?_)
  refine seq_ret (block_ret ?_)
  refine seq_ret (block_ret ?_)
  refine seq_ret (block_ret ?_)
  refine seq_ret (block_ret ?_)
  refine seq_ret (block_ret ?_)
  refine seq_ret (block_ret ?_)
  refine seq_hit fun G h => ?_
  refine seq_ex (block_ex (by decide) ?_)
  refine seq_ex (block_ex (by decide) ?_)
  refine seq_ex (block_ex (by decide) ?_)
  refine seq_ex (block_ex (by decide) ?_)
  refine seq_ex (block_ex (by decide) ?_)
  refine seq_ex (block_ex (by decide) ?_)
  refine seq_ex (block_ex (by decide) ?_)
  refine seq_ex (block_ex (by decide) ?_)
  go_wp2
  refine ⟨rfl, h _ _ ?_⟩
  clear h
  go_wp2_with (go_at_call 41; refine hc.mono ?_; rintro e w' ⟨a, k, rfl, hn, hb1⟩; obtain ⟨c0, f0, c1, f1⟩ := cell_facts hb1)
  refine ⟨rfl, hG0 _ _ ?_⟩
  obtain ⟨g1, g2, g3⟩ := fin n hb1 hn
  refine bodyPost_ret (v := .agg #[_, _]) (results_cell_row rfl _ _ w.heap.size 52 _ (0, 0) _ rfl g3 rfl rfl rfl) rfl ⟨_, _, rfl, g1, g2⟩
set_option maxHeartbeats 200000 in
theorem step10_any (s : Nat) (hs : s ≤ 9) (w : World) : Calls Try.prog 27 #[.int .i64 s, .int .i64 10] w (Did w (actsN s 10) (nextN s 10)) := by
  have hc := ends_any _ hs (fresh w)
  generalize actsN s 10 = l at *
  generalize nextN s 10 = n at *
  go_enter Try.func27, Try.ntmps27
  refine seq_norm fun G h => ?_
  go_wp2
  refine ⟨rfl, h _ _ ?_⟩
  clear h
  refine to_ret fun G0 hG0 => ?_
  refine seq_ret ?_
  refine seq_norm fun G h => ?_
  go_wp2
  refine ⟨rfl, h _ _ ?_⟩
  clear h
  refine block_ret ?_
  refine seq_ret (block_ret ?_)
  refine seq_ret (block_ret ?_)
  refine seq_ret (block_ret ?_)
  refine seq_ret (block_ret ?_)
  refine seq_ret (block_ret ?_)
  refine seq_ret (block_ret ?_)
  refine seq_hit fun G h => ?_
  refine seq_ex (block_ex (by decide) ?_)
  refine seq_ex (block_ex (by decide) ?_)
  refine seq_ex (block_ex (by decide) ?_)
  refine seq_ex (block_ex (by decide) ?_)
  refine seq_ex (block_ex (by decide) ?_)
  refine seq_ex (block_ex (by decide) ?_)
  refine seq_ex (block_ex (by decide) ?_)
  refine seq_ex (block_ex (by decide) ?_)
  refine seq_ex (block_ex (by decide) ?_)
  go_wp2
  refine ⟨rfl, h _ _ ?_⟩
  clear h
  go_wp2_with (go_at_call 42; refine hc.mono ?_; rintro e w' ⟨a, k, rfl, hn, hb1⟩; obtain ⟨c0, f0, c1, f1⟩ := cell_facts hb1)
  refine ⟨rfl, hG0 _ _ ?_⟩
  obtain ⟨g1, g2, g3⟩ := fin n hb1 hn
  refine bodyPost_ret (v := .agg #[_, _]) (results_cell_row rfl _ _ w.heap.size 52 _ (0, 0) _ rfl g3 rfl rfl rfl) rfl ⟨_, _, rfl, g1, g2⟩
set_option maxHeartbeats 200000 in
theorem step11_any (s : Nat) (hs : s ≤ 9) (w : World) : Calls Try.prog 27 #[.int .i64 s, .int .i64 11] w (Did w (actsN s 11) (nextN s 11)) := by
  have hc := ended_any _ hs (fresh w)
  generalize actsN s 11 = l at *
  generalize nextN s 11 = n at *
  go_enter Try.func27, Try.ntmps27
  refine seq_norm fun G h => ?_
  go_wp2
  refine ⟨rfl, h _ _ ?_⟩
  clear h
  refine to_ret fun G0 hG0 => ?_
  refine seq_ret ?_
  refine seq_norm fun G h => ?_
  go_wp2
  refine ⟨rfl, h _ _ ?_⟩
  clear h
  refine block_ret ?_
  refine seq_ret (block_ret ?_)
  refine seq_ret (block_ret ?_)
  refine seq_ret (block_ret ?_)
  refine seq_ret (block_ret ?_)
  refine seq_ret (block_ret ?_)
  refine seq_hit fun G h => ?_
  refine seq_ex (block_ex (by decide) ?_)
  refine seq_ex (block_ex (by decide) ?_)
  refine seq_ex (block_ex (by decide) ?_)
  refine seq_ex (block_ex (by decide) ?_)
  refine seq_ex (block_ex (by decide) ?_)
  refine seq_ex (block_ex (by decide) ?_)
  refine seq_ex (block_ex (by decide) ?_)
  refine seq_ex (block_ex (by decide) ?_)
  refine seq_ex (block_ex (by decide) ?_)
  refine seq_ex (block_ex (by decide) ?_)
  go_wp2
  refine ⟨rfl, h _ _ ?_⟩
  clear h
  go_wp2_with (go_at_call 43; refine hc.mono ?_; rintro e w' ⟨a, k, rfl, hn, hb1⟩; obtain ⟨c0, f0, c1, f1⟩ := cell_facts hb1)
  refine ⟨rfl, hG0 _ _ ?_⟩
  obtain ⟨g1, g2, g3⟩ := fin n hb1 hn
  refine bodyPost_ret (v := .agg #[_, _]) (results_cell_row rfl _ _ w.heap.size 52 _ (0, 0) _ rfl g3 rfl rfl rfl) rfl ⟨_, _, rfl, g1, g2⟩
set_option maxHeartbeats 200000 in
theorem step14_any (s : Nat) (hs : s ≤ 9) (w : World) : Calls Try.prog 27 #[.int .i64 s, .int .i64 14] w (Did w (actsN s 14) (nextN s 14)) := by
  have hc := rejected_any _ hs (fresh w)
  generalize actsN s 14 = l at *
  generalize nextN s 14 = n at *
  go_enter Try.func27, Try.ntmps27
  refine seq_norm fun G h => ?_
  go_wp2
  refine ⟨rfl, h _ _ ?_⟩
  clear h
  refine to_ret fun G0 hG0 => ?_
  refine seq_ret ?_
  refine seq_norm fun G h => ?_
  go_wp2
  refine ⟨rfl, h _ _ ?_⟩
  clear h
  refine block_ret ?_
  refine seq_ret (block_ret ?_)
  refine seq_ret (block_ret ?_)
  refine seq_ret (block_ret ?_)
  refine seq_hit fun G h => ?_
  refine seq_ex (block_ex (by decide) ?_)
  refine seq_ex (block_ex (by decide) ?_)
  refine seq_ex (block_ex (by decide) ?_)
  refine seq_ex (block_ex (by decide) ?_)
  refine seq_ex (block_ex (by decide) ?_)
  refine seq_ex (block_ex (by decide) ?_)
  refine seq_ex (block_ex (by decide) ?_)
  refine seq_ex (block_ex (by decide) ?_)
  refine seq_ex (block_ex (by decide) ?_)
  refine seq_ex (block_ex (by decide) ?_)
  refine seq_ex (block_ex (by decide) ?_)
  refine seq_ex (block_ex (by decide) ?_)
  go_wp2
  refine ⟨rfl, h _ _ ?_⟩
  clear h
  go_wp2_with (go_at_call 45; refine hc.mono ?_; rintro e w' ⟨a, k, rfl, hn, hb1⟩; obtain ⟨c0, f0, c1, f1⟩ := cell_facts hb1)
  refine ⟨rfl, hG0 _ _ ?_⟩
  obtain ⟨g1, g2, g3⟩ := fin n hb1 hn
  refine bodyPost_ret (v := .agg #[_, _]) (results_cell_row rfl _ _ w.heap.size 52 _ (0, 0) _ rfl g3 rfl rfl rfl) rfl ⟨_, _, rfl, g1, g2⟩
set_option maxHeartbeats 4000000 in
theorem step12_yes (s : Nat) (h2 : 2 ≤ s) (hs : s ≤ 9) (w : World) : Calls Try.prog 27 #[.int .i64 s, .int .i64 12] w (Did w (actsN s 12) (nextN s 12)) := by
  have hA : actsN s 12 = [11] ∧ nextN s 12 = s := by
    have h9 : s ≤ 9 := by omega
    rcases ten h9 with rfl | rfl | rfl | rfl | rfl | rfl | rfl | rfl | rfl | rfl <;> first | omega | decide
  rw [hA.1, hA.2]
  clear hA
  go_enter Try.func27, Try.ntmps27
  refine seq_norm fun G h => ?_
  go_wp2
  refine ⟨rfl, h _ _ ?_⟩
  clear h
  refine to_ret fun G0 hG0 => ?_
  refine seq_ret ?_
  refine seq_norm fun G h => ?_
  go_wp2
  refine ⟨rfl, h _ _ ?_⟩
  clear h
  refine block_ret ?_
  refine seq_ret (block_ret ?_)
  refine seq_ret (block_ret ?_)
  refine seq_ret (block_ret ?_)
  refine seq_ret (block_ret ?_)
  refine seq_hit fun G h => ?_
  refine seq_ex (block_ex (by decide) ?_)
  refine seq_ex (block_ex (by decide) ?_)
  refine seq_ex (block_ex (by decide) ?_)
  refine seq_ex (block_ex (by decide) ?_)
  refine seq_ex (block_ex (by decide) ?_)
  refine seq_ex (block_ex (by decide) ?_)
  refine seq_ex (block_ex (by decide) ?_)
  refine seq_ex (block_ex (by decide) ?_)
  refine seq_ex (block_ex (by decide) ?_)
  refine seq_ex (block_ex (by decide) ?_)
  refine seq_ex (block_ex (by decide) ?_)
  go_wp2
  refine ⟨rfl, h _ _ ?_⟩
  clear h
  go_wp2_with (go_at_call 44; refine (to_any _ _ _ _ _).mono ?_; rintro e w' ⟨rfl, hb⟩; obtain ⟨hb1, hn⟩ := row_facts [11] (by decide) hb; obtain ⟨c0, f0, c1, f1⟩ := cell_facts hb1; clear hb)
  refine ⟨rfl, hG0 _ _ ?_⟩
  obtain ⟨g1, g2, g3⟩ := fin (l := [11]) s hb1 hn
  refine bodyPost_ret (v := .agg #[_, _]) (results_cell_row rfl _ _ w.heap.size 52 _ (0, 0) _ rfl g3 rfl rfl rfl) rfl ⟨_, _, rfl, g1, g2⟩
set_option maxHeartbeats 4000000 in
theorem step12_no (s : Nat) (h2 : s < 2) (w : World) : Calls Try.prog 27 #[.int .i64 s, .int .i64 12] w (Did w (actsN s 12) (nextN s 12)) := by
  have hA : actsN s 12 = [] ∧ nextN s 12 = s := by
    have h9 : s ≤ 9 := by omega
    rcases ten h9 with rfl | rfl | rfl | rfl | rfl | rfl | rfl | rfl | rfl | rfl <;> first | omega | decide
  rw [hA.1, hA.2]
  clear hA
  go_enter Try.func27, Try.ntmps27
  refine seq_norm fun G h => ?_
  go_wp2
  refine ⟨rfl, h _ _ ?_⟩
  clear h
  refine wp_seq ?_
  refine seq_norm fun G h => ?_
  go_wp2
  refine ⟨rfl, h _ _ ?_⟩
  clear h
  refine block_hit fun G1 hG1 => ?_
  refine seq_ex (block_ex (by decide) ?_)
  refine seq_ex (block_ex (by decide) ?_)
  refine seq_ex (block_ex (by decide) ?_)
  refine seq_ex (block_ex (by decide) ?_)
  refine seq_hit fun G h => ?_
  refine seq_ex (block_ex (by decide) ?_)
  refine seq_ex (block_ex (by decide) ?_)
  refine seq_ex (block_ex (by decide) ?_)
  refine seq_ex (block_ex (by decide) ?_)
  refine seq_ex (block_ex (by decide) ?_)
  refine seq_ex (block_ex (by decide) ?_)
  refine seq_ex (block_ex (by decide) ?_)
  refine seq_ex (block_ex (by decide) ?_)
  refine seq_ex (block_ex (by decide) ?_)
  refine seq_ex (block_ex (by decide) ?_)
  refine seq_ex (block_ex (by decide) ?_)
  go_wp2
  refine ⟨rfl, h _ _ ?_⟩
  clear h
  go_wp2
  refine ⟨rfl, hG1 _ _ ?_⟩
  clear hG1
  simp only [Exit.then]
  go_wp2_with (go_at_call 44; refine (to_any _ _ _ _ _).mono ?_; rintro e w' ⟨rfl, hb1⟩; obtain ⟨c0, f0, c1, f1⟩ := cell_facts hb1; have hn := Nums.nil w' (fresh w).heap.size)
  (try simp only [Exit.inBlock, Exit.then])
  obtain ⟨g1, g2, g3⟩ := fin (l := []) s hb1 hn
  refine bodyPost_ret (v := .agg #[_, _]) (results_cell_row rfl _ _ w.heap.size 52 _ (0, 0) _ rfl g3 rfl rfl rfl) rfl ⟨_, _, rfl, g1, g2⟩
set_option maxHeartbeats 4000000 in
theorem step15_yes (s : Nat) (h2 : s = 9) (w : World) : Calls Try.prog 27 #[.int .i64 s, .int .i64 15] w (Did w (actsN s 15) (nextN s 15)) := by
  subst h2
  have hA : actsN 9 15 = [12] ∧ nextN 9 15 = 9 := by decide
  rw [hA.1, hA.2]
  clear hA
  go_enter Try.func27, Try.ntmps27
  refine seq_norm fun G h => ?_
  go_wp2
  refine ⟨rfl, h _ _ ?_⟩
  clear h
  refine to_ret fun G0 hG0 => ?_
  refine seq_ret ?_
  refine seq_norm fun G h => ?_
  go_wp2
  refine ⟨rfl, h _ _ ?_⟩
  clear h
  refine block_ret ?_
  refine seq_ret (block_ret ?_)
  refine seq_ret (block_ret ?_)
  refine seq_hit fun G h => ?_
  refine seq_ex (block_ex (by decide) ?_)
  refine seq_ex (block_ex (by decide) ?_)
  refine seq_ex (block_ex (by decide) ?_)
  refine seq_ex (block_ex (by decide) ?_)
  refine seq_ex (block_ex (by decide) ?_)
  refine seq_ex (block_ex (by decide) ?_)
  refine seq_ex (block_ex (by decide) ?_)
  refine seq_ex (block_ex (by decide) ?_)
  refine seq_ex (block_ex (by decide) ?_)
  refine seq_ex (block_ex (by decide) ?_)
  refine seq_ex (block_ex (by decide) ?_)
  refine seq_ex (block_ex (by decide) ?_)
  refine seq_ex (block_ex (by decide) ?_)
  go_wp2
  refine ⟨rfl, h _ _ ?_⟩
  clear h
  go_wp2_with (go_at_call 44; refine (to_any _ _ _ _ _).mono ?_; rintro e w' ⟨rfl, hb⟩; obtain ⟨hb1, hn⟩ := row_facts [12] (by decide) hb; obtain ⟨c0, f0, c1, f1⟩ := cell_facts hb1; clear hb)
  refine ⟨rfl, hG0 _ _ ?_⟩
  obtain ⟨g1, g2, g3⟩ := fin (l := [12]) 9 hb1 hn
  refine bodyPost_ret (v := .agg #[_, _]) (results_cell_row rfl _ _ w.heap.size 52 _ (0, 0) _ rfl g3 rfl rfl rfl) rfl ⟨_, _, rfl, g1, g2⟩
set_option maxHeartbeats 4000000 in
theorem step15_no (s : Nat) (h2 : s < 9) (w : World) : Calls Try.prog 27 #[.int .i64 s, .int .i64 15] w (Did w (actsN s 15) (nextN s 15)) := by
  have hA : actsN s 15 = [] ∧ nextN s 15 = s := by
    have h9 : s ≤ 9 := by omega
    rcases ten h9 with rfl | rfl | rfl | rfl | rfl | rfl | rfl | rfl | rfl | rfl <;> first | omega | decide
  rw [hA.1, hA.2]
  clear hA
  go_enter Try.func27, Try.ntmps27
  refine seq_norm fun G h => ?_
  go_wp2
  refine ⟨rfl, h _ _ ?_⟩
  clear h
  refine to_ret fun G0 hG0 => ?_
  refine seq_ret ?_
  refine seq_norm fun G h => ?_
  go_wp2
  refine ⟨rfl, h _ _ ?_⟩
  clear h
  refine block_ret ?_
  refine wp_seq (wp_block ?_)
  refine wp_seq (wp_block ?_)
  refine seq_hit fun G h => ?_
  refine seq_ex (block_ex (by decide) ?_)
  refine seq_ex (block_ex (by decide) ?_)
  refine seq_ex (block_ex (by decide) ?_)
  refine seq_ex (block_ex (by decide) ?_)
  refine seq_ex (block_ex (by decide) ?_)
  refine seq_ex (block_ex (by decide) ?_)
  refine seq_ex (block_ex (by decide) ?_)
  refine seq_ex (block_ex (by decide) ?_)
  refine seq_ex (block_ex (by decide) ?_)
  refine seq_ex (block_ex (by decide) ?_)
  refine seq_ex (block_ex (by decide) ?_)
  refine seq_ex (block_ex (by decide) ?_)
  refine seq_ex (block_ex (by decide) ?_)
  go_wp2
  refine ⟨rfl, h _ _ ?_⟩
  clear h
  go_wp2_with (go_at_call 44; refine (to_any _ _ _ _ _).mono ?_; rintro e w' ⟨rfl, hb1⟩; obtain ⟨c0, f0, c1, f1⟩ := cell_facts hb1; have hn := Nums.nil w' (fresh w).heap.size)
  refine ⟨rfl, hG0 _ _ ?_⟩
  obtain ⟨g1, g2, g3⟩ := fin (l := []) s hb1 hn
  refine bodyPost_ret (v := .agg #[_, _]) (results_cell_row rfl _ _ w.heap.size 52 _ (0, 0) _ rfl g3 rfl rfl rfl) rfl ⟨_, _, rfl, g1, g2⟩
set_option maxHeartbeats 4000000 in
theorem step13_yes (s : Nat) (h2 : s = 7) (w : World) : Calls Try.prog 27 #[.int .i64 s, .int .i64 13] w (Did w (actsN s 13) (nextN s 13)) := by
  subst h2
  have hA : actsN 7 13 = [] ∧ nextN 7 13 = 6 := by decide
  rw [hA.1, hA.2]
  clear hA
  go_enter Try.func27, Try.ntmps27
  refine seq_norm fun G h => ?_
  go_wp2
  refine ⟨rfl, h _ _ ?_⟩
  clear h
  refine to_ret fun G0 hG0 => ?_
  refine seq_ret ?_
  refine seq_norm fun G h => ?_
  go_wp2
  refine ⟨rfl, h _ _ ?_⟩
  clear h
  refine block_ret ?_
  refine seq_ret (block_ret ?_)
  refine seq_hit fun G h => ?_
  refine seq_ex (block_ex (by decide) ?_)
  refine seq_ex (block_ex (by decide) ?_)
  refine seq_ex (block_ex (by decide) ?_)
  refine seq_ex (block_ex (by decide) ?_)
  refine seq_ex (block_ex (by decide) ?_)
  refine seq_ex (block_ex (by decide) ?_)
  refine seq_ex (block_ex (by decide) ?_)
  refine seq_ex (block_ex (by decide) ?_)
  refine seq_ex (block_ex (by decide) ?_)
  refine seq_ex (block_ex (by decide) ?_)
  refine seq_ex (block_ex (by decide) ?_)
  refine seq_ex (block_ex (by decide) ?_)
  refine seq_ex (block_ex (by decide) ?_)
  refine seq_ex (block_ex (by decide) ?_)
  go_wp2
  refine ⟨rfl, h _ _ ?_⟩
  clear h
  go_wp2_with (go_at_call 44; refine (to_any _ _ _ _ _).mono ?_; rintro e w' ⟨rfl, hb1⟩; obtain ⟨c0, f0, c1, f1⟩ := cell_facts hb1; have hn := Nums.nil w' (fresh w).heap.size)
  refine ⟨rfl, hG0 _ _ ?_⟩
  obtain ⟨g1, g2, g3⟩ := fin (l := []) 6 hb1 hn
  refine bodyPost_ret (v := .agg #[_, _]) (results_cell_row rfl _ _ w.heap.size 52 _ (0, 0) _ rfl g3 rfl rfl rfl) rfl ⟨_, _, rfl, g1, g2⟩
set_option maxHeartbeats 4000000 in
theorem step13_no (s : Nat) (hs : s ≤ 9) (h2 : s ≠ 7) (w : World) : Calls Try.prog 27 #[.int .i64 s, .int .i64 13] w (Did w (actsN s 13) (nextN s 13)) := by
  have hA : actsN s 13 = [] ∧ nextN s 13 = s := by
    have h9 : s ≤ 9 := by omega
    rcases ten h9 with rfl | rfl | rfl | rfl | rfl | rfl | rfl | rfl | rfl | rfl <;> first | omega | decide
  rw [hA.1, hA.2]
  clear hA
  go_enter Try.func27, Try.ntmps27
  refine seq_norm fun G h => ?_
  go_wp2
  refine ⟨rfl, h _ _ ?_⟩
  clear h
  refine to_ret fun G0 hG0 => ?_
  refine seq_ret ?_
  refine seq_norm fun G h => ?_
  go_wp2
  refine ⟨rfl, h _ _ ?_⟩
  clear h
  refine block_ret ?_
  refine wp_seq (wp_block ?_)
  refine seq_hit fun G h => ?_
  refine seq_ex (block_ex (by decide) ?_)
  refine seq_ex (block_ex (by decide) ?_)
  refine seq_ex (block_ex (by decide) ?_)
  refine seq_ex (block_ex (by decide) ?_)
  refine seq_ex (block_ex (by decide) ?_)
  refine seq_ex (block_ex (by decide) ?_)
  refine seq_ex (block_ex (by decide) ?_)
  refine seq_ex (block_ex (by decide) ?_)
  refine seq_ex (block_ex (by decide) ?_)
  refine seq_ex (block_ex (by decide) ?_)
  refine seq_ex (block_ex (by decide) ?_)
  refine seq_ex (block_ex (by decide) ?_)
  refine seq_ex (block_ex (by decide) ?_)
  refine seq_ex (block_ex (by decide) ?_)
  go_wp2
  refine ⟨rfl, h _ _ ?_⟩
  clear h
  go_wp2_with (go_at_call 44; refine (to_any _ _ _ _ _).mono ?_; rintro e w' ⟨rfl, hb1⟩; obtain ⟨c0, f0, c1, f1⟩ := cell_facts hb1; have hn := Nums.nil w' (fresh w).heap.size)
  refine ⟨rfl, hG0 _ _ ?_⟩
  obtain ⟨g1, g2, g3⟩ := fin (l := []) s hb1 hn
  refine bodyPost_ret (v := .agg #[_, _]) (results_cell_row rfl _ _ w.heap.size 52 _ (0, 0) _ rfl g3 rfl rfl rfl) rfl ⟨_, _, rfl, g1, g2⟩
set_option maxHeartbeats 4000000 in
theorem step_no (s : Nat) (e : Int) (he : e < 0 ∨ 15 < e) (w : World) : Calls Try.prog 27 #[.int .i64 s, .int .i64 e] w (Did w [] s) := by
  go_enter Try.func27, Try.ntmps27
  refine seq_norm fun G h => ?_
  go_wp2
  refine ⟨rfl, h _ _ ?_⟩
  clear h
  refine to_ret fun G0 hG0 => ?_
  refine seq_ret ?_
  refine seq_norm fun G h => ?_
  go_wp2
  refine ⟨rfl, h _ _ ?_⟩
  clear h
  refine block_ret ?_
  refine seq_hit fun G h => ?_
  refine seq_ex (block_ex (by decide) ?_)
  refine seq_ex (block_ex (by decide) ?_)
  refine seq_ex (block_ex (by decide) ?_)
  refine seq_ex (block_ex (by decide) ?_)
  refine seq_ex (block_ex (by decide) ?_)
  refine seq_ex (block_ex (by decide) ?_)
  refine seq_ex (block_ex (by decide) ?_)
  refine seq_ex (block_ex (by decide) ?_)
  refine seq_ex (block_ex (by decide) ?_)
  refine seq_ex (block_ex (by decide) ?_)
  refine seq_ex (block_ex (by decide) ?_)
  refine seq_ex (block_ex (by decide) ?_)
  refine seq_ex (block_ex (by decide) ?_)
  refine seq_ex (block_ex (by decide) ?_)
  refine seq_ex (block_ex (by decide) ?_)
  go_wp2
  refine ⟨rfl, h _ _ ?_⟩
  clear h
  go_wp2_with (go_at_call 44; refine (to_any _ _ _ _ _).mono ?_; rintro e w' ⟨rfl, hb1⟩; obtain ⟨c0, f0, c1, f1⟩ := cell_facts hb1; have hn := Nums.nil w' (fresh w).heap.size)
  refine ⟨rfl, hG0 _ _ ?_⟩
  obtain ⟨g1, g2, g3⟩ := fin (l := []) s hb1 hn
  refine bodyPost_ret (v := .agg #[_, _]) (results_cell_row rfl _ _ w.heap.size 52 _ (0, 0) _ rfl g3 rfl rfl rfl) rfl ⟨_, _, rfl, g1, g2⟩
theorem sixteen {e : Nat} (h : e ≤ 15) : e = 0 ∨ e = 1 ∨ e = 2 ∨ e = 3 ∨ e = 4 ∨ e = 5 ∨ e = 6 ∨ e = 7 ∨ e = 8 ∨ e = 9 ∨ e = 10 ∨ e = 11 ∨ e = 12 ∨ e = 13 ∨ e = 14 ∨ e = 15 := by omega
theorem stepN_any (s e : Nat) (hs : s ≤ 9) (he : e ≤ 15) (w : World) : Calls Try.prog 27 #[.int .i64 s, .int .i64 e] w (Did w (actsN s e) (nextN s e)) := by
  rcases sixteen he with rfl | rfl | rfl | rfl | rfl | rfl | rfl | rfl | rfl | rfl | rfl | rfl | rfl | rfl | rfl | rfl
  · exact step0_any s hs w
  · exact step1_any s hs w
  · exact step2_any s hs w
  · exact step3_any s hs w
  · exact step4_any s hs w
  · exact step5_any s hs w
  · exact step6_any s hs w
  · exact step7_any s hs w
  · exact step8_any s hs w
  · exact step9_any s hs w
  · exact step10_any s hs w
  · exact step11_any s hs w
  · by_cases h : 2 ≤ s
    · exact step12_yes s h hs w
    · exact step12_no s (by omega) w
  · by_cases h : s = 7
    · exact step13_yes s h w
    · exact step13_no s hs h w
  · exact step14_any s hs w
  · by_cases h : s = 9
    · exact step15_yes s h w
    · exact step15_no s (by omega) w
/-- the step by any numbers -/
theorem step_any (s e : Int) (h0 : 0 ≤ s) (h9 : s ≤ 9) (w : World) : Calls Try.prog 27 #[.int .i64 s, .int .i64 e] w (Did w (actsI s e) (nextI s e)) := by
  obtain ⟨s, rfl⟩ := Int.eq_ofNat_of_zero_le h0
  by_cases he : 0 ≤ e ∧ e < 16
  · obtain ⟨e, rfl⟩ := Int.eq_ofNat_of_zero_le he.1
    rw [actsI_in (by omega) (by omega), nextI_in (by omega) (by omega)]
    exact stepN_any s e (by omega) (by omega) w
  · rw [actsI_out (by omega), nextI_out (by omega)]
    exact step_no s e (by omega) w
/-- the answer of Step, of either -/
def Stepped (w : World) (l : List Nat) (n : Int) (e : Ending) (w' : World) : Prop :=
  ∃ a c, e = .returned (.tuple #[.slice a l.length c, .int .i64 n]) ∧ Nums w' w.heap.size (.slice a l.length c) l ∧ Below w.heap.size w w'
set_option maxHeartbeats 200000 in
theorem Step_any (s e : Int) (w : World) : Calls Try.prog 14 #[.int .i64 s, .int .i64 e] w (Stepped w (actsI s e) (nextI s e)) := by
  by_cases h : 0 ≤ s ∧ s ≤ 9
  · obtain ⟨h0, h9⟩ := h
    have hc := step_any s e h0 h9 w
    generalize actsI s e = l at *
    generalize nextI s e = n at *
    go_enter Try.func14, Try.ntmps14
    go_wp2_with (go_at_call 27; refine hc.mono ?_; rintro e w' ⟨a, k, rfl, hn, hb1⟩)
    go_quiet (fail)
    go_wp2
    go_ret2
    exact ⟨a, k, rfl, hn.below (below_drewN (below_alloc (Below.refl w'.heap.size w') _ (Nat.le_refl _)) _), below_drewN (below_alloc hb1 _ (Nat.le_refl _)) _⟩
  · rw [actsI_out (by omega), nextI_out (by omega)]
    by_cases h0 : 0 ≤ s
    · go_enter Try.func14, Try.ntmps14
      go_wp2
      go_ret2
      exact ⟨none, 0, rfl, Nums.nil _ _, Below.refl _ _⟩
    · go_enter Try.func14, Try.ntmps14
      go_wp2
      go_ret2
      exact ⟨none, 0, rfl, Nums.nil _ _, Below.refl _ _⟩
end Go.Proofs.Ytjcigaonadkhkaa
