/-
  A new joiner; what a joiner says of itself. No conditions.
-/
import Derived.Test.YtglmlhbchfgliaaMuHeap
import Derived.Maps.RangeWalk
namespace Go.Proofs.Ytglmlhbchfgliaa
open Go.RowKit Go.Maps
theorem Jo.c1 {w : World} {B b bm : Nat} {vl : Value} {s : JS} (h : Jo w B b bm vl s) : w.cell? ⟨b, 1, none⟩ = some (.int .i64 (s.most : Nat)) := by rw [h.blk.cell]; rfl
theorem Jo.c0 {w : World} {B b bm : Nat} {vl : Value} {s : JS} (h : Jo w B b bm vl s) : w.cell? ⟨b, 0, none⟩ = some (.bool true) := by rw [h.blk.cell]; rfl
theorem Jo.c2 {w : World} {B b bm : Nat} {vl : Value} {s : JS} (h : Jo w B b bm vl s) : w.cell? ⟨b, 2, none⟩ = some (.bool s.short) := by rw [h.blk.cell]; rfl
theorem Jo.c3 {w : World} {B b bm : Nat} {vl : Value} {s : JS} (h : Jo w B b bm vl s) : w.cell? ⟨b, 3, none⟩ = some (.int .i64 (s.next : Nat)) := by rw [h.blk.cell]; rfl
theorem Jo.c4 {w : World} {B b bm : Nat} {vl : Value} {s : JS} (h : Jo w B b bm vl s) : w.cell? ⟨b, 4, none⟩ = some (.map (some bm)) := by rw [h.blk.cell]; rfl
theorem Jo.c5 {w : World} {B b bm : Nat} {vl : Value} {s : JS} (h : Jo w B b bm vl s) : w.cell? ⟨b, 5, none⟩ = some vl := by rw [h.blk.cell]; rfl
theorem Jo.c6 {w : World} {B b bm : Nat} {vl : Value} {s : JS} (h : Jo w B b bm vl s) : w.cell? ⟨b, 6, none⟩ = some (.int .i64 (wrap64 (s.lost : Nat))) := by rw [h.blk.cell]; rfl
theorem next_any {w : World} {B b bm : Nat} {vl : Value} {s : JS} (h : Jo w B b bm vl s) :
    Calls Try.prog 23 #[.pointer (some ⟨b, 0, none⟩)] w fun e w' => e = .returned (.int .i64 (s.next : Nat)) ∧ w = w' := by
  have g := h.c3
  go_enter Try.func23, Try.ntmps23
  go_wp2_with fail
  go_ret
  exact ⟨rfl, rfl⟩
theorem lost_any {w : World} {B b bm : Nat} {vl : Value} {s : JS} (h : Jo w B b bm vl s) :
    Calls Try.prog 21 #[.pointer (some ⟨b, 0, none⟩)] w fun e w' => e = .returned (.int .i64 (wrap64 (s.lost : Nat))) ∧ w = w' := by
  have g := h.c6
  go_enter Try.func21, Try.ntmps21
  go_wp2_with fail
  go_ret
  exact ⟨rfl, rfl⟩
theorem held_any {w : World} {B b bm : Nat} {vl : Value} {s : JS} (h : Jo w B b bm vl s) :
    Calls Try.prog 22 #[.pointer (some ⟨b, 0, none⟩)] w fun e w' => e = .returned (.int .i64 (s.held.length : Nat)) ∧ w = w' := by
  have g := h.c4
  obtain ⟨D, hv, m1, m2, m3⟩ := h.map
  have hsz := m2.size
  rw [m3.length] at hsz
  go_enter Try.func22, Try.ntmps22
  go_wp2_with (at_len; refine wpList_len_own _ rfl _ 69 rfl 3 75 Try.underlying69 _ bm _ D rfl m1 ?_)
  go_ret
  exact ⟨rfl, rfl⟩
set_option maxRecDepth 100000 in
theorem info_int : (Try.prog.info? 3).map (fun i => (i.zero, i.size, i.bytes)) = some (some (.int .i64 0), 1, 8) := by kernel_rfl
theorem new_no {w : World} (links most : Int) (short : Bool) (h : links < 1 ∨ 16 < links ∨ most < 1 ∨ 4096 < most) :
    Calls Try.prog 14 #[.int .i64 links, .int .i64 most, .bool short] w fun e w' => e = .returned (.tuple #[.pointer none, .int .i64 1]) ∧ w = w' := by
  by_cases h1 : links < 1
  · clear h
    go_enter Try.func14, Try.ntmps14
    go_wp2_with fail
    go_ret2
    exact ⟨rfl, rfl⟩
  have h1 : 1 ≤ links := by omega
  by_cases h2 : 16 < links
  · clear h
    go_enter Try.func14, Try.ntmps14
    go_wp2_with fail
    go_ret2
    exact ⟨rfl, rfl⟩
  have h2 : links ≤ 16 := by omega
  by_cases h3 : most < 1
  · clear h
    go_enter Try.func14, Try.ntmps14
    go_wp2_with fail
    go_ret2
    exact ⟨rfl, rfl⟩
  have h4 : 4096 < most := by omega
  clear h h3
  · go_enter Try.func14, Try.ntmps14
    go_wp2_with fail
    go_ret2
    exact ⟨rfl, rfl⟩
/-- a new joiner, plainly -/
def newJ (links most : Nat) (short : Bool) : JS := ⟨short, most, 0, List.replicate links (-1), [], 0⟩
theorem rgN_pos (short : Bool) : 0 < rgN short := by cases short <;> decide
set_option maxHeartbeats 1000000 in
theorem new_any {w : World} (links most : Nat) (short : Bool) (h1 : 1 ≤ links) (h2 : links ≤ 16) (h3 : 1 ≤ most) (h4 : most ≤ 4096) :
    Calls Try.prog 14 #[.int .i64 (links : Nat), .int .i64 (most : Nat), .bool short] w fun e w' => ∃ vl, e = .returned (.tuple #[.pointer (some ⟨w.heap.size + 1, 0, none⟩), .int .i64 0]) ∧
      Jo w' w.heap.size (w.heap.size + 1) w.heap.size vl (newJ links most short) ∧ Below w.heap.size w w' := by
  obtain ⟨i0, hi, hz0, hz1, hz2⟩ := info_parts info_int
  have hi' := Lib.hid hi; clear hi
  have hmm : ∀ W : World, (Instr.makeMap 69 none).run Try.prog W = .ok (.map (some W.heap.size)) (W.alloc (.map #[] 0)) := fun _ => rfl
  have hj0 : Jo ((w.alloc (.map #[] 0)).alloc (.cells #[.bool true, .int .i64 (most : Nat), .bool short, .int .i64 0, .map (some w.heap.size), .slice none 0 0, .int .i64 0] 71)) w.heap.size (w.heap.size + 1) w.heap.size (.slice none 0 0) (newJ 0 most short) := by
    have n2 := Blk.new (w.alloc (.map #[] 0)) #[.bool true, .int .i64 (most : Nat), .bool short, .int .i64 0, .map (some w.heap.size), .slice none 0 0, .int .i64 0] 71
    rw [alloc_size] at n2
    have e0 : wrap64 (((newJ 0 most short).lost : Nat) : Int) = 0 := by show wrap64 ((0 : Nat) : Int) = 0; unfold wrap64; omega
    exact ⟨by rw [e0]; exact n2, World.ownsRow_nil _ _ _ _, ⟨_, [], (World.ownsMap_made w Try.prog 3 asIs).alloc _, DMap.nil, trivial⟩, by omega, Nat.le_refl _, rgN_pos _, Nat.zero_le _, (fun _ h => by cases h), (fun _ h => by cases h)⟩
  have hb0 : Below w.heap.size w ((w.alloc (.map #[] 0)).alloc (.cells #[.bool true, .int .i64 (most : Nat), .bool short, .int .i64 0, .map (some w.heap.size), .slice none 0 0, .int .i64 0] 71)) := below_alloc (below_alloc (Below.refl _ _) _ (Nat.le_refl _)) _ (Nat.le_refl _)
  have hj0' := Lib.hid hj0; clear hj0
  have hb0' := Lib.hid hb0; clear hb0
  have l1 : (1 : Int) ≤ (links : Int) := by omega
  have l2 : (links : Int) ≤ 16 := by omega
  have l3 : (1 : Int) ≤ (most : Int) := by omega
  have l4 : (most : Int) ≤ 4096 := by omega
  go_enter Try.func14, Try.ntmps14
  go_wp2_with fail
  go_loopw [29] (fun vi wr => ∃ (k : Nat) (vl : Value), k ≤ links ∧ vi = .int .i64 k ∧ Jo wr w.heap.size (w.heap.size + 1) w.heap.size vl (newJ k most short) ∧ Below w.heap.size w wr) (fun vi _ => links - (intOf vi).toNat)
  case atStart => exact ⟨0, _, Nat.zero_le _, rfl, hj0'.out, hb0'.out⟩
  case round =>
    obtain ⟨k, vl, hk, rfl, hJ, hb⟩ := hrel
    by_cases hlt : k < links
    · have hltI : (k : Int) < (links : Int) := by omega
      have g5 := hJ.c5
      have hrow := hJ.row
      have hsz := hb.size
      go_wp2_with (at_builtin; go_must (refine wp_app1_at rfl _ _ 60 rfl w.heap.size 3 i0 _ 8 Try.underlying60 hi'.out hz0 hz1 hz2 rfl vl _ _ (by rfl) hrow (.int .i64 (-1)) rfl (by rfl) ?c3 ?c4 hsz ?_))
      case c3 => unfold maxLen; simp [newJ]; omega
      case c4 => simp [newJ]; omega
      intro v' w' ho hg hx
      obtain ⟨a', c', rfl⟩ := own_slice ho
      have hb2 : ButOf (fun k => vl.ownBlock = some k) wr w' := ButOf.of_grown hg (fun _ e => e)
      have kb : Blk w' (w.heap.size + 1) _ _ := hJ.blk.but hb2 (fun e => hJ.ne_own hJ.row (by decide) _ e rfl)
      have g6 := kb.cell 5
      have f6 := kb.free 5 none
      simp only [List.getElem?_toArray, List.getElem?_cons_succ, List.getElem?_cons_zero] at g6
      have hJ2 := hJ.setRow (v' := .slice a' _ c') (L := List.replicate (k + 1) (-1)) hg (own_congr ho rfl (by simp [newJ, zv, List.replicate_succ', -List.append_eq_nil_iff])) (fun x hx => by have := rgN_pos short; rw [List.eq_of_mem_replicate hx]; exact ⟨by omega, by show (-1 : Int) < (rgN short : Int); omega⟩)
      have hb3 := (below_grown hb hrow hg hsz).setCell (p := ⟨w.heap.size + 1, 5, none⟩) (Nat.le_succ _) (.slice a' ((newJ k most short).last.length + 1) c')
      go_wp2_with fail
      exact ⟨⟨k + 1, _, by omega, rfl, hJ2, hb3⟩, by simp [intOf]; omega⟩
    · have hke : k = links := by omega
      go_wp2_with fail
      go_ret2
      subst hke
      exact ⟨vl, rfl, hJ, hb⟩
end Go.Proofs.Ytglmlhbchfgliaa
