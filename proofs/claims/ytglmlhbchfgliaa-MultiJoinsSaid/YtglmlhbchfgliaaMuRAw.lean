/-
  The reference's NewJoiner, and its Add as one law. Conditions: a fragment has no more than 100000 bytes.
-/
import Derived.Test.YtglmlhbchfgliaaMuRAdd
namespace Go.Proofs.Ytglmlhbchfgliaa
open Go.RowKit Go.Maps
theorem rnew_no {w : World} (links most : Int) (short : Bool) (h : links < 1 ∨ 16 < links ∨ most < 1 ∨ 4096 < most) :
    Calls Try.prog 24 #[.int .i64 links, .int .i64 most, .bool short] w fun e w' => e = .returned (.tuple #[.pointer none, .int .i64 1]) ∧ w = w' := by
  by_cases h1 : links < 1
  · clear h
    go_enter Try.func24, Try.ntmps24
    go_wp2_with fail
    go_ret2
    exact ⟨rfl, rfl⟩
  have h1 : 1 ≤ links := by omega
  by_cases h2 : 16 < links
  · clear h
    go_enter Try.func24, Try.ntmps24
    go_wp2_with fail
    go_ret2
    exact ⟨rfl, rfl⟩
  have h2 : links ≤ 16 := by omega
  by_cases h3 : most < 1
  · clear h
    go_enter Try.func24, Try.ntmps24
    go_wp2_with fail
    go_ret2
    exact ⟨rfl, rfl⟩
  have h4 : 4096 < most := by omega
  clear h h3
  · go_enter Try.func24, Try.ntmps24
    go_wp2_with fail
    go_ret2
    exact ⟨rfl, rfl⟩
/-- its row has grown, and is stored -/
theorem RJ.setRow {w w' : World} {B b : Nat} {vl vh v' : Value} {s : JS} {L : List Int} {m : Nat} (h : RJ w B b vl vh s) (hg : w.grownBy w' vl.ownBlock) (ho : w'.ownsRow B 3 1 v' m (L.map zv)) : RJ (w'.setCell ⟨b, 3, none⟩ v') B b v' vh { s with last := L } := by
  have hb : ButOf (fun k => vl.ownBlock = some k) w w' := ButOf.of_grown hg (fun _ e => e)
  have hm : m = L.length := by have := ho.1; simpa using this.symm
  subst hm
  obtain ⟨vs, e1, e2⟩ := h.held
  have k1 : Blk w' b _ _ := h.blk.but hb (fun e => own_blk_ne h.row h.blk (by decide) e)
  have k2 := own_but e1 hb (fun k hk => own_own_ne e1 h.row (by decide) hk)
  have k3 : Each w' B vs (s.held.map (·.2.b)) := e2.but hb (fun x hx k hk => by obtain ⟨l', hl'⟩ := e2.mem x hx; exact own_own_ne hl' h.row (by decide) hk)
  have hb2 : ButOf (fun k => k = b) w' (w'.setCell ⟨b, 3, none⟩ v') := (ButOf.refl _ w').set v' (Or.inl rfl)
  refine ⟨k1.set 3 v', own_but ho hb2 (fun k hk e => own_blk_ne ho k1 (by decide) (e ▸ hk)), ⟨vs, own_but k2 hb2 (fun k hk e => own_blk_ne k2 k1 (by decide) (e ▸ hk)), k3.but hb2 (fun x hx k hk e => ?_)⟩, h.base⟩
  obtain ⟨l', hl'⟩ := k3.mem x hx
  exact own_blk_ne hl' k1 (by decide) (e ▸ hk)
set_option maxHeartbeats 1000000 in
theorem rnew_any {w : World} (links most : Nat) (short : Bool) (h1 : 1 ≤ links) (h2 : links ≤ 16) (h3 : 1 ≤ most) (h4 : most ≤ 4096) :
    Calls Try.prog 24 #[.int .i64 (links : Nat), .int .i64 (most : Nat), .bool short] w fun e w' => ∃ vl, e = .returned (.tuple #[.pointer (some ⟨w.heap.size, 0, none⟩), .int .i64 0]) ∧
      RJ w' w.heap.size w.heap.size vl (.slice none 0 0) (newJ links most short) ∧ Below w.heap.size w w' := by
  obtain ⟨i0, hi, hz0, hz1, hz2⟩ := info_parts info_int
  have hi' := Lib.hid hi; clear hi
  have hj0 : RJ (w.alloc (.cells #[.bool short, .int .i64 (most : Nat), .int .i64 0, .slice none 0 0, .slice none 0 0, .int .i64 0] 63)) w.heap.size w.heap.size (.slice none 0 0) (.slice none 0 0) (newJ 0 most short) := by
    have n2 := Blk.new w #[.bool short, .int .i64 (most : Nat), .int .i64 0, .slice none 0 0, .slice none 0 0, .int .i64 0] 63
    have e0 : wrap64 (((newJ 0 most short).lost : Nat) : Int) = 0 := by show wrap64 ((0 : Nat) : Int) = 0; unfold wrap64; omega
    exact ⟨by rw [e0]; exact n2, World.ownsRow_nil _ _ _ _, ⟨[], World.ownsRow_nil _ _ _ _, trivial⟩, Nat.le_refl _⟩
  have hb0 := below_alloc (Below.refl w.heap.size w) (.cells #[.bool short, .int .i64 (most : Nat), .int .i64 0, .slice none 0 0, .slice none 0 0, .int .i64 0] 63) (Nat.le_refl _)
  have hj0' := Lib.hid hj0; clear hj0
  have hb0' := Lib.hid hb0; clear hb0
  have l1 : (1 : Int) ≤ (links : Int) := by omega
  have l2 : (links : Int) ≤ 16 := by omega
  have l3 : (1 : Int) ≤ (most : Int) := by omega
  have l4 : (most : Int) ≤ 4096 := by omega
  go_enter Try.func24, Try.ntmps24
  go_wp2_with fail
  go_loopw [9] (fun vi wr => ∃ (k : Nat) (vl : Value), k ≤ links ∧ vi = .int .i64 k ∧ RJ wr w.heap.size w.heap.size vl (.slice none 0 0) (newJ k most short) ∧ Below w.heap.size w wr) (fun vi _ => links - (intOf vi).toNat)
  case atStart => exact ⟨0, _, Nat.zero_le _, rfl, hj0'.out, hb0'.out⟩
  case round =>
    obtain ⟨k, vl, hk, rfl, hJ, hb⟩ := hrel
    by_cases hlt : k < links
    · have hltI : (k : Int) < (links : Int) := by omega
      have g5 := hJ.c3
      have hrow := hJ.row
      have hsz := hb.size
      go_wp2_with (at_builtin; go_must (refine wp_app1_at rfl _ _ 60 rfl w.heap.size 3 i0 _ 8 Try.underlying60 hi'.out hz0 hz1 hz2 rfl vl _ _ (by rfl) hrow (.int .i64 (-1)) rfl (by rfl) ?c3 ?c4 hsz ?_))
      case c3 => unfold maxLen; simp [newJ]; omega
      case c4 => simp [newJ]; omega
      intro v' w' ho hg hx
      obtain ⟨a', c', rfl⟩ := own_slice ho
      have hb2 : ButOf (fun k => vl.ownBlock = some k) wr w' := ButOf.of_grown hg (fun _ e => e)
      have kb : Blk w' w.heap.size _ _ := hJ.blk.but hb2 (fun e => own_blk_ne hJ.row hJ.blk (by decide) e)
      have g6 := kb.cell 3
      have f6 := kb.free 3 none
      simp only [List.getElem?_toArray, List.getElem?_cons_succ, List.getElem?_cons_zero] at g6
      have hJ2 := hJ.setRow (v' := .slice a' _ c') (L := List.replicate (k + 1) (-1)) hg (own_congr ho rfl (by simp [newJ, zv, List.replicate_succ', -List.append_eq_nil_iff]))
      have hb3 := (below_grown hb hrow hg hsz).setCell (p := ⟨w.heap.size, 3, none⟩) (Nat.le_refl _) (.slice a' ((newJ k most short).last.length + 1) c')
      go_wp2_with fail
      exact ⟨⟨k + 1, _, by omega, rfl, hJ2, hb3⟩, by simp [intOf]; omega⟩
    · have hke : k = links := by omega
      go_wp2_with fail
      go_ret2
      subst hke
      exact ⟨vl, rfl, hJ, hb⟩
theorem radd_any {w : World} {B b : Nat} {vl vh : Value} {s : JS} {a : Option Addr} {n c : Nat} {l : List UInt8} (link : Int) (h : RJ w B b vl vh s) (hs : Rest s) (hB : Bts w a n c l) (hl : l.length ≤ 100000) :
    Calls Try.prog 26 #[.pointer (some ⟨b, 0, none⟩), .int .i64 link, .slice a n c] w fun e w' => ∃ v L err t vh', e = .returned (.tuple #[v, .int .i64 (err : Nat)]) ∧ AddR s link l L err t ∧ RJ w' B b vl vh' t ∧ Fr w' w.heap.size v L ∧ ButOf (RFoot b vl vh) w w' ∧ Next w vh vh' := by
  have still : ∀ {e : Ending} {w' : World} {err : Nat}, (e = .returned (.tuple #[.slice none 0 0, .int .i64 (err : Nat)]) ∧ Below w.heap.size w w') → AddR s link l [] err s → ∃ v L err t vh', e = .returned (.tuple #[v, .int .i64 (err : Nat)]) ∧ AddR s link l L err t ∧ RJ w' B b vl vh' t ∧ Fr w' w.heap.size v L ∧ ButOf (RFoot b vl vh) w w' ∧ Next w vh vh' :=
    fun he hr => ⟨_, _, _, _, _, he.1, hr, h.below he.2, Fr.nil _ _, ButOf.of_below he.2, Next.refl _ _⟩
  by_cases h1 : link < 0 ∨ (s.last.length : Int) ≤ link
  · exact (radd_arg link _ h h1).mono (fun e w' he => still (err := 1) he (by unfold AddR; rw [if_pos h1]; exact ⟨rfl, rfl, rfl⟩))
  · obtain ⟨k, rfl⟩ := Int.eq_ofNat_of_zero_le (show 0 ≤ link by omega)
    have hk : k < s.last.length := by omega
    by_cases h2 : (headP l s.short).err ≠ 0
    · exact (radd_head k h hB hk h2).mono (fun e w' he => still he (by unfold AddR; rw [if_neg h1, if_pos h2]; exact ⟨rfl, rfl, rfl⟩))
    · have h2' : (headP l s.short).err = 0 := by simpa using h2
      by_cases h3 : oldP s k (headP l s.short).n = true
      · exact (radd_old k h hs.ok hB hk h2' h3).mono (fun e w' he => still (err := 8) he (by unfold AddR; rw [if_neg h1, if_neg h2, if_pos (show oldP s (k : Int).toNat (headP l s.short).n = true from h3)]; exact ⟨rfl, rfl, rfl⟩))
      · refine (radd_ok k h hs.ok hs.few hB hl hk h2' (by simpa using h3)).mono ?_
        rintro e w' ⟨v, L, t, vh', rfl, hG, hJ, hF, hb, hn⟩
        refine ⟨v, L, 0, t, vh', rfl, ?_, hJ, hF, hb, hn⟩
        unfold AddR
        rw [if_neg h1, if_neg h2, if_neg (show ¬ oldP s (k : Int).toNat (headP l s.short).n = true from h3)]
        exact ⟨rfl, hG⟩
end Go.Proofs.Ytglmlhbchfgliaa
