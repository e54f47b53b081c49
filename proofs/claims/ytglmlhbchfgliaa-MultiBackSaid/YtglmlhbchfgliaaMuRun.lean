/-
  The fragments from the next one on: plainly. No conditions.
-/
import Derived.Test.YtglmlhbchfgliaaMuEnded
import Derived.Test.YtglmlhbchfgliaaMuCut
namespace Go.Proofs.Ytglmlhbchfgliaa
open Go.RowKit Go.Maps
/-- the fragment of a number -/
def getP (held : List (Nat × Pc)) (n : Nat) : Option Pc := (held.find? (fun p => decide (p.1 = n))).map (·.2)
/-- the fragments from number n on, at most f of them -/
def runF (R : Nat) (held : List (Nat × Pc)) : Nat → Nat → List Pc
  | 0, _ => []
  | f + 1, n => match getP held n with
    | none => []
    | some p => p :: runF R held f ((n + 1) % R)
def runP (s : JS) : List Pc := runF (rgN s.short) s.held (s.held.length + 1) s.next
theorem nodup_len {l : List Nat} : ∀ {m : List Nat}, l.Nodup → (∀ x ∈ l, x ∈ m) → l.length ≤ m.length := by
  induction l with
  | nil => intro m _ _; exact Nat.zero_le _
  | cons a l ih =>
    intro m hn hs
    rw [List.nodup_cons] at hn
    have ha := hs a List.mem_cons_self
    have h1 := ih (m := m.erase a) hn.2 (fun x hx => (List.mem_erase_of_ne (show x ≠ a from fun e => hn.1 (by rw [← e]; exact hx))).2 (hs x (List.mem_cons_of_mem _ hx)))
    rw [List.length_erase_of_mem ha] at h1
    have := List.length_pos_of_mem ha
    simp only [List.length_cons]
    omega
set_option maxRecDepth 100000 in
theorem zeroPart (w : World) : (zeroValue 75).run Try.prog w = .ok (.agg #[.bool false, .bool false, .slice none 0 0]) w := by kernel_rfl
set_option maxRecDepth 100000 in
theorem info_part : (Try.prog.info? 75).map (fun i => (i.zero, i.size, i.bytes)) = some (some (.agg #[.bool false, .bool false, .slice none 0 0]), 3, 32) := by kernel_rfl
theorem getP_some {w : World} {B : Nat} : ∀ {hv : List (Nat × Value)} {hs : List (Nat × Pc)} {n : Nat} {p : Pc}, Parts w B hv hs → getP hs n = some p → ∃ v, (n, pcV p v) ∈ hv ∧ w.ownsRow B 5 1 v p.b.length (p.b.map bv)
  | x :: xs, q :: qs, n, p, h, hg => by
    unfold getP at hg
    rw [List.find?_cons] at hg
    obtain ⟨h1, ⟨v, h2, h3⟩, h4⟩ := h
    by_cases e : q.1 = n
    · simp only [e, decide_true, Option.map_some, Option.some.injEq] at hg
      subst hg
      exact ⟨v, by rw [List.mem_cons]; left; exact Prod.ext (e ▸ h1.symm) h2.symm, h3⟩
    · simp only [e, decide_false] at hg
      obtain ⟨v, hv, ho⟩ := getP_some h4 (show getP qs n = some p from hg)
      exact ⟨v, List.mem_cons_of_mem _ hv, ho⟩
  | [], [], _, _, _, hg => by simp [getP] at hg
  | [], _ :: _, _, _, h, _ => h.elim
  | _ :: _, [], _, _, h, _ => h.elim
theorem getP_none {hs : List (Nat × Pc)} {n : Nat} : getP hs n = none ↔ n ∉ hs.map (·.1) := by
  unfold getP
  rw [Option.map_eq_none_iff, List.find?_eq_none]
  simp only [decide_eq_true_eq, List.mem_map, not_exists, not_and]
/-- as many are held as there are numbers in a row -/
theorem ring_pig {R next j : Nat} {held : List (Nat × Pc)} (hj : j ≤ R) (h : ∀ i, i < j → ∃ p, getP held ((next + i) % R) = some p) : j ≤ held.length := by
  have h1 := nodup_len (l := (List.range j).map (fun i => (next + i) % R)) (m := held.map (·.1)) ?_ ?_
  · simpa using h1
  · unfold List.Nodup
    rw [List.pairwise_iff_getElem]
    intro a b ha hb hab
    simp only [List.length_map, List.length_range] at ha hb
    simp only [List.getElem_map, List.getElem_range]
    intro e
    have e2 := Nat.sub_mod_eq_zero_of_mod_eq e.symm
    rw [show next + b - (next + a) = b - a by omega, Nat.mod_eq_of_lt (by omega)] at e2
    omega
  · intro x hx
    obtain ⟨i, hi, rfl⟩ := List.mem_map.1 hx
    obtain ⟨p, hp⟩ := h i (List.mem_range.1 hi)
    by_cases hm : (next + i) % R ∈ held.map (·.1)
    · exact hm
    · rw [getP_none.2 hm] at hp; cases hp
theorem runF_some {R : Nat} {held : List (Nat × Pc)} {f n : Nat} {p : Pc} (h : getP held n = some p) : runF R held (f + 1) n = p :: runF R held f ((n + 1) % R) := by
  rw [runF, h]
theorem runF_none {R : Nat} {held : List (Nat × Pc)} {f n : Nat} (h : getP held n = none) : runF R held f n = [] := by
  cases f with
  | zero => rfl
  | succ f => rw [runF, h]
section
variable {P : Program} (w : World) {ops : Array Oper} {rest : List Oper} {o : Oper} {a : Act} {Q : Exit → Act → World → Prop}
theorem zeroPart_as : asIs (.agg #[.bool false, .bool false, .slice none 0 0]) = some (.held (.agg #[.bool false, .bool false, .slice none 0 0]), []) := rfl
/-- a number is looked up that is held -/
theorem wp_look_yes (hg : o.guard = none) (m x : Operand) (hop : o.op = Op.lookup 69 m x true) {B bm k n : Nat} {D : DataW Value} {hv : List (Nat × Value)} {hs : List (Nat × Pc)} {p : Pc}
    (hm : a.eval m = .map (some bm)) (hown : w.ownsMap Try.prog 3 asIs bm k D) (hD : DMap D hv) (hP : Parts w B hv hs) (hx : a.eval x = .int .i64 (n : Nat)) (hn : n < 16777216) (hp : getP hs n = some p)
    (hK : ∀ v, w.ownsRow B 5 1 v p.b.length (p.b.map bv) → wpList Try.prog ops Q rest (a.put o.dst (.tuple #[.agg #[.bool p.first, .bool p.last, v], .bool true])) w) :
    wpList Try.prog ops Q (o :: rest) a w := by
  obtain ⟨v, h1, h2⟩ := getP_some hP hp
  refine wpList_lookup_own_ok w hg m x _ hop 3 75 lawInt Try.underlying69 asIs (zeroPart w) _ _ zeroPart_as bm k D hm hown _ (nk n) hx (keyOf_int_mk Try.underlying3 (by simp [Lit.wf, IntKind.min, IntKind.max, IntKind.signed, IntKind.bits]; omega)) ?_
  intro u ps hu
  rw [hD.at_ h1] at hu
  have hh : Maps.has D (nk n) = true := by rw [hD.has, List.any_eq_true]; exact ⟨_, h1, by simp⟩
  rw [hh]
  unfold asIs at hu
  cases hu
  exact hK v h2
/-- a number is looked up that is not held -/
theorem wp_look_no (hg : o.guard = none) (m x : Operand) (hop : o.op = Op.lookup 69 m x true) {B bm k n : Nat} {D : DataW Value} {hv : List (Nat × Value)} {hs : List (Nat × Pc)}
    (hm : a.eval m = .map (some bm)) (hown : w.ownsMap Try.prog 3 asIs bm k D) (hD : DMap D hv) (hP : Parts w B hv hs) (hx : a.eval x = .int .i64 (n : Nat)) (hn : n < 16777216) (hp : getP hs n = none)
    (hK : wpList Try.prog ops Q rest (a.put o.dst (.tuple #[.agg #[.bool false, .bool false, .slice none 0 0], .bool false])) w) :
    wpList Try.prog ops Q (o :: rest) a w := by
  have hk := getP_none.1 hp
  rw [← hP.keys] at hk
  have hh : Maps.has D (nk n) = false := by
    rw [hD.has, List.any_eq_false]
    intro x hx e
    exact hk (List.mem_map.2 ⟨x, hx, by simpa using e⟩)
  refine wpList_lookup_own_ok w hg m x _ hop 3 75 lawInt Try.underlying69 asIs (zeroPart w) _ _ zeroPart_as bm k D hm hown _ (nk n) hx (keyOf_int_mk Try.underlying3 (by simp [Lit.wf, IntKind.min, IntKind.max, IntKind.signed, IntKind.bits]; omega)) ?_
  intro u ps hu
  rw [atKey_of_not_has hh] at hu
  rw [hh]
  unfold asIs at hu
  cases hu
  exact hK
end
theorem own_slen {w : World} {B E size n : Nat} {v : Value} {xs : List Value} (h : w.ownsRow B E size v n xs) : slLen v = n := by
  rcases h.2 with ⟨rfl, rfl⟩ | ⟨g, cap, cur, rfl, _⟩
  · rfl
  · rfl
/-- append of one element of some cells that lies in a new block of its own, onto an own row; where the new row lies -/
theorem wp_appS_at {P : Program} {w : World} {ops : Array Oper} {rest : List Oper} {o : Oper} {a : Act} {Q : Exit → Act → World → Prop} (hgd : o.guard = none) (s x : Operand) (t : TypeId)
    (ho : o.op = .call { callee := .builtin .append, args := #[s, x], argTypes := #[t, t] })
    (base : Nat) (e : TypeId) (i : TypeInfo) (z : Value) (size bytes : Nat) (ht : P.underlying t = some (.slice e)) (hi : P.info? e = some i) (hz : i.zero = some z)
    (hsize : i.size = size) (hby : i.bytes = bytes) (hzs : z.cells.size = size) (hsz : 0 < size)
    (v : Value) (n : Nat) (xs : List Value) (hs : a.eval s = v) (hown : w.ownsRow base e size v n xs)
    (qs : List Value) (hql : qs.length = size) (hq : ∀ u ∈ qs, u.oneCell' = true) (hx : a.eval x = .slice (some ⟨w.heap.size, 0, none⟩) 1 1)
    (hmax : n + 1 ≤ maxLen) (hbytes : (n + 1) * bytes ≤ 140737488355328) (hbase : base ≤ w.heap.size)
    (h : ∀ v' w', w'.ownsRow base e size v' (n + 1) (xs ++ qs) → w.grownBy w' v.ownBlock → Next w v v' → wpList P ops Q rest (a.put o.dst v') w') :
    wpList P ops Q (o :: rest) a (w.alloc (.cells qs.toArray e)) := by
  refine wpList_append_own_at _ hgd s x t ho base e i z size bytes ht hi hz hsize hby hzs hsz v n xs hs (hown.alloc _) ⟨w.heap.size, 0, none⟩ 1 1 qs hx (by omega) ?_ hq hmax hbytes (by simp; omega) ?_
  · intro j u hj
    rw [show ∀ (b o j : Nat), (⟨b, o, none⟩ : Addr).add j = ⟨b, o + j, none⟩ from fun b o j => by unfold Addr.add; split <;> simp_all, World.cell?_alloc_at _ _ _ _ rfl]
    simpa using hj
  · intro v' w' ho' hg _ hat
    refine h v' w' ho' ⟨hg.os, hg.tape, hg.output, ?_, ?_⟩ ?_
    · have := hg.size; simp at this; omega
    · intro k hk hne
      rw [hg.block k (by simp; omega) hne]
      exact Below.heap_alloc _ _ _ hk
    · intro k hk
      rcases hat with e | e
      · exact .inl (by rw [← e]; exact hk)
      · rw [e] at hk; cases hk; right; simp
/-- a fragment more -/
theorem run_round {w wr W w5 : World} {B : Nat} {v v5 x : Value} {ps : List Pc} {vs : List Value} {p : Pc} (hb : Below w.heap.size w wr) (hb2 : Below wr.heap.size wr W) (ho : wr.ownsRow w.heap.size 75 3 v ps.length (pcCells vs ps)) (he : Each wr B vs (ps.map (·.b)))
    (hx : wr.ownsRow B 5 1 x p.b.length (p.b.map bv)) (h5 : w5.ownsRow w.heap.size 75 3 v5 (ps.length + 1) (pcCells vs ps ++ [.bool p.first, .bool p.last, x])) (hg : W.grownBy w5 v.ownBlock) :
    w5.ownsRow w.heap.size 75 3 v5 (ps ++ [p]).length (pcCells (vs ++ [x]) (ps ++ [p])) ∧ Each w5 B (vs ++ [x]) ((ps ++ [p]).map (·.b)) ∧ Below w.heap.size w w5 := by
  have hl := he.length
  rw [List.length_map] at hl
  have hW : ButOf (fun k => v.ownBlock = some k) W w5 := ButOf.of_grown hg (fun _ e => e)
  have ho2 := own_below ho hb2
  have hx2 := own_below hx hb2
  have he2 := he.but (K := fun _ => False) (ButOf.of_below hb2) (fun _ _ _ _ h => h)
  have hne : ∀ {y : Value} {l : List UInt8}, W.ownsRow B 5 1 y l.length (l.map bv) → ∀ k, y.ownBlock = some k → ¬ v.ownBlock = some k := fun hy k hk => own_own_ne hy ho2 (by decide) hk
  refine ⟨own_congr h5 (by simp) (pcCells_snoc hl).symm, ?_, below_grown (hb.trans (hb2.mono hb.size)) ho2 hg (Nat.le_trans hb.size hb2.size)⟩
  rw [List.map_append]
  refine (he2.but hW (fun y hy k hk => ?_)).snoc (own_but hx2 hW (hne hx2))
  obtain ⟨l', hl'⟩ := he2.mem y hy
  exact hne hl' k hk
set_option maxRecDepth 100000 in
set_option maxHeartbeats 2000000 in
theorem run_any {w : World} {B b bm : Nat} {vl : Value} {s : JS} (h : Jo w B b bm vl s) :
    Calls Try.prog 38 #[.pointer (some ⟨b, 0, none⟩)] w fun e w' => ∃ v, e = .returned v ∧ Rn w' B v (runP s) ∧ (∀ k, v.ownBlock = some k → w.heap.size ≤ k) ∧ Below w.heap.size w w' := by
  have g3 := h.c3
  have hR := rgN_two s.short
  obtain ⟨i0, hi, hz0, hz1, hz2⟩ := info_parts info_part
  have hi' := Lib.hid hi; clear hi
  have hfew := h.few
  have hnx := h.next
  go_enter Try.func38, Try.ntmps38
  go_wp2_with fail
  go_loopw [3, 4] (fun v3 v4 wr => ∃ (n f : Nat) (ps : List Pc) (vs : List Value), v4 = .int .i64 (n : Nat) ∧ n < rgN s.short ∧ wr.ownsRow w.heap.size 75 3 v3 ps.length (pcCells vs ps) ∧ Each wr B vs (ps.map (·.b)) ∧ Below w.heap.size w wr ∧
      Hid (runP s = ps ++ runF (rgN s.short) s.held f n) ∧ Hid (n = (s.next + ps.length) % rgN s.short) ∧ (∀ i, i < ps.length → ∃ p, getP s.held ((s.next + i) % rgN s.short) = some p) ∧ Hid (f + ps.length = s.held.length + 1)) (fun v3 _ _ => s.held.length + 1 - slLen v3)
  case atStart => exact ⟨s.next, s.held.length + 1, [], [], rfl, hnx, World.ownsRow_nil _ _ _ _, trivial, Below.refl _ _, Lib.hid rfl, Lib.hid (by simp [Nat.mod_eq_of_lt hnx]), (fun i hi => by simp at hi), Lib.hid rfl⟩
  case round =>
    obtain ⟨n, f, ps, vs, rfl, hn, ho, he, hb, hE, hnn, hall, hf⟩ := hrel
    have ho0 := Lib.hid (own_slen ho)
    have hJ := h.below hb
    have g4 := hJ.c4
    obtain ⟨D, hv, m1, m2, m3⟩ := hJ.map
    have hps : ps.length ≤ s.held.length := ring_pig (next := s.next) (R := rgN s.short) (by
      have := ring_pig (j := min ps.length (rgN s.short)) (next := s.next) (Nat.min_le_right _ _) (fun i hi => hall i (by omega))
      omega) hall
    have hn2 : n < 16777216 := by omega
    cases hgp : getP s.held n with
    | none =>
      go_wp2_with (at_lookup; refine wp_look_no _ rfl _ _ rfl rfl m1 m2 m3 rfl hn2 hgp ?_)
      go_ret
      have e := hE.out
      rw [runF_none hgp, List.append_nil] at e
      rw [e]
      have hb3 := below_alloc (Below.refl wr.heap.size wr) (.cells #[.bool false, .bool false, .slice none 0 0] 75) (Nat.le_refl _)
      exact ⟨_, rfl, ⟨vs, own_mono (own_below ho hb3) (Nat.le_trans h.base (Nat.le_of_lt h.lt)), he.but (K := fun _ => False) (ButOf.of_below hb3) (fun _ _ _ _ h => h)⟩, (fun k hk => (ho.lt k hk).1), hb.trans (hb3.mono hb.size)⟩
    | some p =>
      obtain ⟨f, rfl⟩ : ∃ f', f = f' + 1 := ⟨f - 1, by have := hf.out; omega⟩
      rw [runF_some hgp] at hE
      have hm1 : ps.length + 1 ≤ maxLen := by unfold maxLen; omega
      have hm2 : (ps.length + 1) * 32 ≤ 140737488355328 := by omega
      have hsz := hb.size
      have hrem : ((n : Int) + 1).tmod (rgN s.short : Int) = (((n + 1) % rgN s.short : Nat) : Int) := by rw [Int.tmod_eq_emod_of_nonneg (by omega), show (n : Int) + 1 = ((n + 1 : Nat) : Int) by omega]; exact (Int.natCast_emod _ _).symm
      have hRz : ((rgN s.short : Int) == 0) = false := by rw [beq_eq_false_iff_ne]; omega
      have hR0 : ¬ rgN s.short = 0 := by omega
      have hn1 : (n + 1) % rgN s.short < rgN s.short := Nat.mod_lt _ (rgN_pos _)
      have hgp2 : getP s.held ((s.next + ps.length) % rgN s.short) = some p := by rw [← hnn.out]; exact hgp
      have hwr : IntKind.i64.wrap ((n : Int) + 1) = (n : Int) + 1 := by rw [IntKind.wrap_i64]; omega
      replace hgp2 := Lib.hid hgp2
      generalize hn' : (n + 1) % rgN s.short = n' at hrem hn1 hE
      replace hn' := Lib.hid hn'
      have hW := fun cs => below_alloc (Below.refl wr.heap.size wr) (.cells cs 75) (Nat.le_refl _)
      have hgp1 := Lib.hid hgp
      clear hgp
      have hsW : ∀ o, w.heap.size ≤ (wr.alloc o).heap.size := fun o => by rw [alloc_size]; omega
      go_wp2_with (first | (at_lookup; refine wp_look_yes _ rfl _ _ rfl rfl m1 m2 m3 rfl hn2 hgp1.out ?_; intro x hx; obtain ⟨xa, xc, rfl⟩ := own_slice hx) | (at_builtin; go_must (refine wp_appS_at rfl _ _ 85 rfl w.heap.size 75 i0 _ 3 32 Try.underlying85 hi'.out hz0 hz1 hz2 rfl (by decide) _ _ _ rfl (own_below ho (hW _)) [.bool p.first, .bool p.last, .slice xa p.b.length xc] rfl (by intro u hu; simp at hu; rcases hu with rfl | rfl | rfl <;> rfl) (by rw [alloc_size]; rfl) hm1 hm2 (hsW _) ?_)))
      intro v5 w5 ho5 hg5 _
      obtain ⟨r1, r2, r3⟩ := run_round hb (hW _) ho he hx ho5 hg5
      have g2 := (h.below r3).c2
      clear ho5 hg5 hx hJ ho he m1 m2 m3 hW hb g4
      have hsl := own_slen r1
      go_wp2_with (go_at_call 27; refine (ring_any _ _).mono ?_; rintro e w' ⟨rfl, rfl⟩)
      go_roundw
      case rel =>
        refine ⟨n', f, ps ++ [p], vs ++ [_], rfl, hn1, r1, r2, r3, Lib.hid (by rw [hE.out]; simp), Lib.hid ?_, ?_, Lib.hid (by have := hf.out; simp; omega)⟩
        · rw [← hn'.out, hnn.out, List.length_append, List.length_singleton, Nat.mod_add_mod, Nat.add_assoc]
        · intro i hi
          rw [List.length_append, List.length_singleton] at hi
          by_cases hi2 : i < ps.length
          · exact hall i hi2
          · obtain rfl : i = ps.length := by omega
            exact ⟨p, hgp2.out⟩
      case measure =>
        rw [List.length_append, List.length_singleton] at hsl
        have ho0 := ho0.out
        simp [hsl, ho0]; omega
end Go.Proofs.Ytglmlhbchfgliaa
