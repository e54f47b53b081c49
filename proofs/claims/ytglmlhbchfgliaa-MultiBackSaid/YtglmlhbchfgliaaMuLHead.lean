/-
  The head of the law's own fragments: that it is some row of bytes. Conditions: its number is of moderate size.
-/
import Derived.Test.YtglmlhbchfgliaaMuHead
import Derived.Test.YtglmlhbchfgliaaDeed6
import Derived.Test.YtglmlhbchfgliaaHeld
namespace Go.Proofs.Ytglmlhbchfgliaa
open Go.RowKit
theorem bcell (x : Int) : ∃ u : UInt8, Value.int .u8 (x % 256) = bv u := by
  refine ⟨UInt8.ofNat (x % 256).toNat, ?_⟩
  unfold bv
  congr 1
  rw [UInt8.toNat_ofNat']
  omega
theorem cells2 {v1 v2 : Value} (h1 : ∃ u : UInt8, v1 = bv u) (h2 : ∃ u : UInt8, v2 = bv u) : ∃ us : List UInt8, us.length = 2 ∧ #[v1, v2] = (us.map bv).toArray := by
  obtain ⟨u1, rfl⟩ := h1
  obtain ⟨u2, rfl⟩ := h2
  exact ⟨[u1, u2], rfl, rfl⟩
theorem cells4 {v1 v2 v3 v4 : Value} (h1 : ∃ u : UInt8, v1 = bv u) (h2 : ∃ u : UInt8, v2 = bv u) (h3 : ∃ u : UInt8, v3 = bv u) (h4 : ∃ u : UInt8, v4 = bv u) : ∃ us : List UInt8, us.length = 4 ∧ #[v1, v2, v3, v4] = (us.map bv).toArray := by
  obtain ⟨u1, rfl⟩ := h1
  obtain ⟨u2, rfl⟩ := h2
  obtain ⟨u3, rfl⟩ := h3
  obtain ⟨u4, rfl⟩ := h4
  exact ⟨[u1, u2, u3, u4], rfl, rfl⟩
theorem own_slice1 {w : World} {B E n : Nat} {v : Value} {xs : List Value} (h : w.ownsRow B E 1 v n xs) : ∃ a c, v = .slice a n c := by
  rcases h.2 with ⟨rfl, rfl⟩ | ⟨g, cap, cur, rfl, _⟩
  · exact ⟨none, 0, rfl⟩
  · exact ⟨_, cap, rfl⟩
/-- bytes are appended to a few that were just laid -/
theorem wp_lit {W : World} {ops : Array Oper} {rest : List Oper} {o : Oper} {a : Act} {Q : Exit → Act → World → Prop} (hgd : o.guard = none) (s x : Operand)
    (ho : o.op = .call { callee := .builtin .append, args := #[s, x], argTypes := #[27, 27] }) {k : Nat} {cs : Array Value} (hcs : ∃ us : List UInt8, us.length = k ∧ cs = (us.map bv).toArray) (hk : k ≤ 1000)
    (hs : a.eval s = .slice (some ⟨W.heap.size, 0, none⟩) k k) (ad : Option Addr) (m c : Nat) (l : List UInt8) (hx : a.eval x = .slice ad m c) (hB : Bts W ad m c l) (hm : m ≤ 100000)
    (h : ∀ (v' : Value) (w' : World) (l' : List UInt8), w'.ownsRow W.heap.size 5 1 v' l'.length (l'.map bv) → l'.length = k + m → Below W.heap.size W w' → wpList Try.prog ops Q rest (a.put o.dst v') w') :
    wpList Try.prog ops Q (o :: rest) a (W.alloc (.cells cs 5)) := by
  obtain ⟨us, hul, rfl⟩ := hcs
  obtain ⟨i0, hi, hz0, hz1, hz2⟩ := info_parts Try.info5
  have hb := below_alloc (Below.refl W.heap.size W) (.cells (us.map bv).toArray 5) (Nat.le_refl _)
  have ho1 : (W.alloc (.cells (us.map bv).toArray 5)).ownsRow W.heap.size 5 1 (.slice (some ⟨W.heap.size, 0, none⟩) k k) k (us.map bv) := by
    have := own_of_blk (Blk.new W (us.map bv).toArray 5) (Nat.le_refl _) (Nat.le_refl k) (by unfold maxLen; omega) (by simpa using hul)
    rwa [List.take_of_length_le (by simp [hul])] at this
  refine wp_appB_at hgd s x 27 ho W.heap.size 5 i0 _ 1 Try.underlying27 hi hz0 hz1 hz2 rfl _ _ _ hs ho1 ad m c l hx (hB.below hb (Nat.le_refl _)) (by unfold maxLen; omega) (by omega) hb.size ?_
  intro v' w' h1 h2 _
  exact h v' w' (us ++ l) (own_congr h1 (by simp [hul, hB.len]) (by simp)) (by simp [hul, hB.len]) (below_grown hb ho1 h2 hb.size)
set_option maxRecDepth 100000 in
set_option maxHeartbeats 2000000 in
theorem lhead_short {w : World} {n x y : Int} {f1 f2 raw : Bool} {a : Option Addr} {bn c : Nat} {l : List UInt8} (hn : -1000000000000 ≤ n ∧ n ≤ 1000000000000) (h : Bts w a bn c l) (hl : bn ≤ 1000) :
    Calls Try.prog 25 #[.int .i64 n, .agg #[.int .i64 x, .int .i64 y, .bool f1, .bool f2, .bool raw, .slice a bn c], .bool true] w fun e w' => ∃ (v : Value) (l' : List UInt8), e = .returned v ∧ w'.ownsRow w.heap.size 5 1 v l'.length (l'.map bv) ∧ l'.length ≤ 1004 ∧ Below w.heap.size w w' := by
  obtain ⟨hn1, hn2⟩ := hn
  have hb0 := below_alloc (Below.refl w.heap.size w) (.cells #[.int .i64 x, .int .i64 y, .bool f1, .bool f2, .bool raw, .slice a bn c] 56) (Nat.le_refl _)
  have hB := h.below hb0 (Nat.le_refl _)
  cases f1
  · cases f2
    · go_enter Try.func25, Try.ntmps25
      go_wp2_with (at_builtin; go_must (refine wp_lit rfl _ _ rfl (cells2 (by (first | exact bcell _ | exact ⟨0, rfl⟩ | exact ⟨64, rfl⟩ | exact ⟨128, rfl⟩ | exact ⟨192, rfl⟩)) (by (first | exact bcell _ | exact ⟨0, rfl⟩ | exact ⟨64, rfl⟩ | exact ⟨128, rfl⟩ | exact ⟨192, rfl⟩))) (by omega) (by rw [alloc_size]; rfl) a bn c l rfl hB (by omega) ?_))
      intro v' w' l' ho hll hb
      obtain ⟨a', c', rfl⟩ := own_slice1 ho
      go_wp2_with fail
      go_ret
      exact ⟨_, l', rfl, own_mono ho (Nat.le_succ _), by omega, hb0.trans (hb.mono (Nat.le_succ _))⟩
    · go_enter Try.func25, Try.ntmps25
      go_wp2_with (at_builtin; go_must (refine wp_lit rfl _ _ rfl (cells2 (by (first | exact bcell _ | exact ⟨0, rfl⟩ | exact ⟨64, rfl⟩ | exact ⟨128, rfl⟩ | exact ⟨192, rfl⟩)) (by (first | exact bcell _ | exact ⟨0, rfl⟩ | exact ⟨64, rfl⟩ | exact ⟨128, rfl⟩ | exact ⟨192, rfl⟩))) (by omega) (by rw [alloc_size]; rfl) a bn c l rfl hB (by omega) ?_))
      intro v' w' l' ho hll hb
      obtain ⟨a', c', rfl⟩ := own_slice1 ho
      go_wp2_with fail
      go_ret
      exact ⟨_, l', rfl, own_mono ho (Nat.le_succ _), by omega, hb0.trans (hb.mono (Nat.le_succ _))⟩
  · cases f2
    · go_enter Try.func25, Try.ntmps25
      go_wp2_with (at_builtin; go_must (refine wp_lit rfl _ _ rfl (cells2 (by (first | exact bcell _ | exact ⟨0, rfl⟩ | exact ⟨64, rfl⟩ | exact ⟨128, rfl⟩ | exact ⟨192, rfl⟩)) (by (first | exact bcell _ | exact ⟨0, rfl⟩ | exact ⟨64, rfl⟩ | exact ⟨128, rfl⟩ | exact ⟨192, rfl⟩))) (by omega) (by rw [alloc_size]; rfl) a bn c l rfl hB (by omega) ?_))
      intro v' w' l' ho hll hb
      obtain ⟨a', c', rfl⟩ := own_slice1 ho
      go_wp2_with fail
      go_ret
      exact ⟨_, l', rfl, own_mono ho (Nat.le_succ _), by omega, hb0.trans (hb.mono (Nat.le_succ _))⟩
    · go_enter Try.func25, Try.ntmps25
      go_wp2_with (at_builtin; go_must (refine wp_lit rfl _ _ rfl (cells2 (by (first | exact bcell _ | exact ⟨0, rfl⟩ | exact ⟨64, rfl⟩ | exact ⟨128, rfl⟩ | exact ⟨192, rfl⟩)) (by (first | exact bcell _ | exact ⟨0, rfl⟩ | exact ⟨64, rfl⟩ | exact ⟨128, rfl⟩ | exact ⟨192, rfl⟩))) (by omega) (by rw [alloc_size]; rfl) a bn c l rfl hB (by omega) ?_))
      intro v' w' l' ho hll hb
      obtain ⟨a', c', rfl⟩ := own_slice1 ho
      go_wp2_with fail
      go_ret
      exact ⟨_, l', rfl, own_mono ho (Nat.le_succ _), by omega, hb0.trans (hb.mono (Nat.le_succ _))⟩
set_option maxRecDepth 100000 in
set_option maxHeartbeats 2000000 in
theorem lhead_long {w : World} {n x y : Int} {f1 f2 raw : Bool} {a : Option Addr} {bn c : Nat} {l : List UInt8} (hn : -1000000000000 ≤ n ∧ n ≤ 1000000000000) (h : Bts w a bn c l) (hl : bn ≤ 1000) :
    Calls Try.prog 25 #[.int .i64 n, .agg #[.int .i64 x, .int .i64 y, .bool f1, .bool f2, .bool raw, .slice a bn c], .bool false] w fun e w' => ∃ (v : Value) (l' : List UInt8), e = .returned v ∧ w'.ownsRow w.heap.size 5 1 v l'.length (l'.map bv) ∧ l'.length ≤ 1004 ∧ Below w.heap.size w w' := by
  obtain ⟨hn1, hn2⟩ := hn
  have hb0 := below_alloc (Below.refl w.heap.size w) (.cells #[.int .i64 x, .int .i64 y, .bool f1, .bool f2, .bool raw, .slice a bn c] 56) (Nat.le_refl _)
  have hB := h.below hb0 (Nat.le_refl _)
  cases f1
  · cases f2
    · go_enter Try.func25, Try.ntmps25
      go_wp2_with (at_builtin; go_must (refine wp_lit rfl _ _ rfl (cells4 (by (first | exact bcell _ | exact ⟨0, rfl⟩ | exact ⟨64, rfl⟩ | exact ⟨128, rfl⟩ | exact ⟨192, rfl⟩)) (by (first | exact bcell _ | exact ⟨0, rfl⟩ | exact ⟨64, rfl⟩ | exact ⟨128, rfl⟩ | exact ⟨192, rfl⟩)) (by (first | exact bcell _ | exact ⟨0, rfl⟩ | exact ⟨64, rfl⟩ | exact ⟨128, rfl⟩ | exact ⟨192, rfl⟩)) (by (first | exact bcell _ | exact ⟨0, rfl⟩ | exact ⟨64, rfl⟩ | exact ⟨128, rfl⟩ | exact ⟨192, rfl⟩))) (by omega) (by rw [alloc_size]; rfl) a bn c l rfl hB (by omega) ?_))
      intro v' w' l' ho hll hb
      obtain ⟨a', c', rfl⟩ := own_slice1 ho
      go_wp2_with fail
      go_ret
      exact ⟨_, l', rfl, own_mono ho (Nat.le_succ _), by omega, hb0.trans (hb.mono (Nat.le_succ _))⟩
    · go_enter Try.func25, Try.ntmps25
      go_wp2_with (at_builtin; go_must (refine wp_lit rfl _ _ rfl (cells4 (by (first | exact bcell _ | exact ⟨0, rfl⟩ | exact ⟨64, rfl⟩ | exact ⟨128, rfl⟩ | exact ⟨192, rfl⟩)) (by (first | exact bcell _ | exact ⟨0, rfl⟩ | exact ⟨64, rfl⟩ | exact ⟨128, rfl⟩ | exact ⟨192, rfl⟩)) (by (first | exact bcell _ | exact ⟨0, rfl⟩ | exact ⟨64, rfl⟩ | exact ⟨128, rfl⟩ | exact ⟨192, rfl⟩)) (by (first | exact bcell _ | exact ⟨0, rfl⟩ | exact ⟨64, rfl⟩ | exact ⟨128, rfl⟩ | exact ⟨192, rfl⟩))) (by omega) (by rw [alloc_size]; rfl) a bn c l rfl hB (by omega) ?_))
      intro v' w' l' ho hll hb
      obtain ⟨a', c', rfl⟩ := own_slice1 ho
      go_wp2_with fail
      go_ret
      exact ⟨_, l', rfl, own_mono ho (Nat.le_succ _), by omega, hb0.trans (hb.mono (Nat.le_succ _))⟩
  · cases f2
    · go_enter Try.func25, Try.ntmps25
      go_wp2_with (at_builtin; go_must (refine wp_lit rfl _ _ rfl (cells4 (by (first | exact bcell _ | exact ⟨0, rfl⟩ | exact ⟨64, rfl⟩ | exact ⟨128, rfl⟩ | exact ⟨192, rfl⟩)) (by (first | exact bcell _ | exact ⟨0, rfl⟩ | exact ⟨64, rfl⟩ | exact ⟨128, rfl⟩ | exact ⟨192, rfl⟩)) (by (first | exact bcell _ | exact ⟨0, rfl⟩ | exact ⟨64, rfl⟩ | exact ⟨128, rfl⟩ | exact ⟨192, rfl⟩)) (by (first | exact bcell _ | exact ⟨0, rfl⟩ | exact ⟨64, rfl⟩ | exact ⟨128, rfl⟩ | exact ⟨192, rfl⟩))) (by omega) (by rw [alloc_size]; rfl) a bn c l rfl hB (by omega) ?_))
      intro v' w' l' ho hll hb
      obtain ⟨a', c', rfl⟩ := own_slice1 ho
      go_wp2_with fail
      go_ret
      exact ⟨_, l', rfl, own_mono ho (Nat.le_succ _), by omega, hb0.trans (hb.mono (Nat.le_succ _))⟩
    · go_enter Try.func25, Try.ntmps25
      go_wp2_with (at_builtin; go_must (refine wp_lit rfl _ _ rfl (cells4 (by (first | exact bcell _ | exact ⟨0, rfl⟩ | exact ⟨64, rfl⟩ | exact ⟨128, rfl⟩ | exact ⟨192, rfl⟩)) (by (first | exact bcell _ | exact ⟨0, rfl⟩ | exact ⟨64, rfl⟩ | exact ⟨128, rfl⟩ | exact ⟨192, rfl⟩)) (by (first | exact bcell _ | exact ⟨0, rfl⟩ | exact ⟨64, rfl⟩ | exact ⟨128, rfl⟩ | exact ⟨192, rfl⟩)) (by (first | exact bcell _ | exact ⟨0, rfl⟩ | exact ⟨64, rfl⟩ | exact ⟨128, rfl⟩ | exact ⟨192, rfl⟩))) (by omega) (by rw [alloc_size]; rfl) a bn c l rfl hB (by omega) ?_))
      intro v' w' l' ho hll hb
      obtain ⟨a', c', rfl⟩ := own_slice1 ho
      go_wp2_with fail
      go_ret
      exact ⟨_, l', rfl, own_mono ho (Nat.le_succ _), by omega, hb0.trans (hb.mono (Nat.le_succ _))⟩
theorem lhead_any {w : World} {n x y : Int} {f1 f2 raw : Bool} {a : Option Addr} {bn c : Nat} {l : List UInt8} (short : Bool) (hn : -1000000000000 ≤ n ∧ n ≤ 1000000000000) (h : Bts w a bn c l) (hl : bn ≤ 1000) :
    Calls Try.prog 25 #[.int .i64 n, .agg #[.int .i64 x, .int .i64 y, .bool f1, .bool f2, .bool raw, .slice a bn c], .bool short] w fun e w' => ∃ (v : Value) (l' : List UInt8), e = .returned v ∧ w'.ownsRow w.heap.size 5 1 v l'.length (l'.map bv) ∧ l'.length ≤ 1004 ∧ Below w.heap.size w w' := by
  cases short
  · exact lhead_long hn h hl
  · exact lhead_short hn h hl
end Go.Proofs.Ytglmlhbchfgliaa
