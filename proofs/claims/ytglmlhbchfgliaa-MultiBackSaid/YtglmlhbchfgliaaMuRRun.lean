/-
  The reference's run: plainly, and its walk. Conditions: a fragment has no more than 100000 bytes.
-/
import Derived.Test.YtglmlhbchfgliaaMuRPass
namespace Go.Proofs.Ytglmlhbchfgliaa
open Go.RowKit Go.Maps
/-- the fragments from number i on: by how many one begins anew (0: none), the bytes so far -/
def rrunF : Nat → Nat → List UInt8 → List Pc → Option (Nat × Option (List UInt8))
  | _, _, _, [] => none
  | i, an, acc, p :: r =>
    if p.last then some (if 0 < (if 0 < i ∧ p.first = true ∧ an = 0 then i else an) then ((if 0 < i ∧ p.first = true ∧ an = 0 then i else an), none) else (i + 1, some (acc ++ p.b)))
    else rrunF (i + 1) (if 0 < i ∧ p.first = true ∧ an = 0 then i else an) (acc ++ p.b) r
theorem runF_at {R : Nat} {held : List (Nat × Pc)} : ∀ {f n k : Nat}, n < R → k ≤ (runF R held f n).length → (runF R held f n).length < f → getP held ((n + k) % R) = (runF R held f n)[k]?
  | 0, _, _, _, _, h => by omega
  | f + 1, n, k, hn, hk, hf => by
    rw [runF] at hk hf ⊢
    cases hg : getP held n with
    | none =>
      rw [hg] at hk hf
      simp only [List.length_nil] at hk
      obtain rfl : k = 0 := by omega
      rw [Nat.add_zero, Nat.mod_eq_of_lt hn, hg]; rfl
    | some q =>
      rw [hg] at hk hf
      simp only [List.length_cons] at hk hf
      cases k with
      | zero => rw [Nat.add_zero, Nat.mod_eq_of_lt hn, hg]; rfl
      | succ k =>
        have := runF_at (R := R) (held := held) (f := f) (n := (n + 1) % R) (k := k) (Nat.mod_lt _ (by omega)) (by omega) (by omega)
        rw [List.getElem?_cons_succ, ← this, Nat.mod_add_mod]
        congr 2; omega
theorem runP_few {s : JS} (h : s.next < rgN s.short) (hf : s.held.length ≤ 100) : (runP s).length ≤ s.held.length := by
  have hR := rgN_two s.short
  have h1 := fun j (hj : j ≤ (runP s).length) (hr : j ≤ rgN s.short) => ring_pig (R := rgN s.short) (next := s.next) (held := s.held) (j := j) hr (fun i hi => runF_all h (by show i < (runP s).length; omega))
  have h2 := h1 (min (runP s).length 200) (Nat.min_le_left _ _) (by omega)
  exact h1 _ (Nat.le_refl _) (by omega)
theorem run_at {s : JS} (h : s.next < rgN s.short) (hf : s.held.length ≤ 100) {k : Nat} (hk : k ≤ (runP s).length) : getP s.held ((s.next + k) % rgN s.short) = (runP s)[k]? :=
  runF_at h hk (by have := runP_few h hf; show (runP s).length < _; omega)
/-- append of bytes onto an own row that is not nil: it is not nil then -/
theorem wp_appB_nn {P : Program} {w : World} {ops : Array Oper} {rest : List Oper} {o : Oper} {a : Act} {Q : Exit → Act → World → Prop} (hgd : o.guard = none) (s x : Operand) (t : TypeId)
    (ho : o.op = .call { callee := .builtin .append, args := #[s, x], argTypes := #[t, t] })
    (base : Nat) (e : TypeId) (i : TypeInfo) (z : Value) (bytes : Nat) (ht : P.underlying t = some (.slice e)) (hi : P.info? e = some i) (hz : i.zero = some z)
    (hsize : i.size = 1) (hby : i.bytes = bytes) (hzs : z.cells.size = 1)
    (v : Value) (n : Nat) (xs : List Value) (hs : a.eval s = v) (hown : w.ownsRow base e 1 v n xs) (hnn : v.ownBlock ≠ none)
    (ad : Option Addr) (m c : Nat) (l : List UInt8) (hx : a.eval x = .slice ad m c) (hB : Bts w ad m c l)
    (hmax : n + m ≤ maxLen) (hbytes : (n + m) * bytes ≤ 140737488355328) (hbase : base ≤ w.heap.size)
    (h : ∀ v' w', w'.ownsRow base e 1 v' (n + m) (xs ++ l.map bv) → w.grownBy w' v.ownBlock → v'.ownBlock ≠ none → wpList P ops Q rest (a.put o.dst v') w') :
    wpList P ops Q (o :: rest) a w := by
  have hl := hB.len
  cases ad with
  | none =>
    have hc := hB.nil rfl
    have hm := hB.cap
    obtain rfl : m = 0 := by omega
    subst hc
    obtain rfl : l = [] := List.eq_nil_of_length_eq_zero hl
    refine wpList_append_own_none hgd s x t ho base e i 1 ht hi v n xs hs hown hx (h _ _ (by simpa using hown) ⟨rfl, rfl, rfl, Nat.le_refl _, fun _ _ _ => rfl⟩ hnn)
  | some ad =>
    refine wpList_append_own_at _ hgd s x t ho base e i z 1 bytes ht hi hz hsize hby hzs (by decide) v n xs hs hown ad m c (l.map bv) hx (by simp [hl]) ?_ ?_ hmax hbytes hbase (fun v' w' h1 h2 _ h4 => h v' w' h1 h2 (by rcases h4 with e | e <;> rw [e]; exact hnn; simp))
    · intro j u hj
      have hj' : j < l.length := by
        have := (List.getElem?_eq_some_iff.1 hj).1; simpa using this
      obtain ⟨b, o, e1, e2⟩ := hB.cell j (by omega)
      cases e1
      have : (⟨b, o, none⟩ : Addr).add j = ⟨b, o + j, none⟩ := by unfold Addr.add; split <;> simp_all
      rw [this, e2]
      simp [List.getElem?_map, List.getElem?_eq_getElem hj', bv] at hj
      simp [List.getD_eq_getElem?_getD, List.getElem?_eq_getElem hj', hj]
    · intro u hu
      obtain ⟨x, _, rfl⟩ := List.mem_map.1 hu
      rfl
theorem own_some {w : World} {B E n : Nat} {v : Value} {xs : List Value} (h : w.ownsRow B E 1 v n xs) (hn : v.ownBlock ≠ none) : ∃ g c, v = .slice (some ⟨g, 0, none⟩) n c := by
  rcases h.2 with ⟨rfl, _⟩ | ⟨g, cap, cur, rfl, _⟩
  · exact absurd rfl hn
  · exact ⟨_, _, rfl⟩
/-- what run tells -/
def RunR (w : World) (B : Nat) (v : Value) (a e : Nat) : Option (Nat × Option (List UInt8)) → Prop
  | none => v = .slice none 0 0 ∧ a = 0 ∧ e = 0
  | some (k, none) => v = .slice none 0 0 ∧ a = k ∧ e = 0
  | some (k, some d) => (∃ g c, v = .slice (some ⟨g, 0, none⟩) d.length c) ∧ w.ownsRow B 5 1 v d.length (d.map bv) ∧ a = 0 ∧ e = k
/-- a round's append -/
theorem rrun_round {w wr w5 : World} {B : Nat} {v v5 : Value} {acc l : List UInt8} {m : Nat} (hb : Below w.heap.size w wr) (ho : wr.ownsRow w.heap.size 5 1 v acc.length (acc.map bv)) (hm : l.length = m)
    (h5 : w5.ownsRow w.heap.size 5 1 v5 (acc.length + m) (acc.map bv ++ l.map bv)) (hg : wr.grownBy w5 v.ownBlock) (_ : B ≤ B) :
    w5.ownsRow w.heap.size 5 1 v5 (acc ++ l).length ((acc ++ l).map bv) ∧ Below w.heap.size w w5 :=
  ⟨own_congr h5 (by rw [List.length_append, hm]) (by rw [List.map_append]), below_grown hb ho hg hb.size⟩
/-- the cells of what is held stay where bytes are appended to another row -/
theorem held_cell {w w5 : World} {B b g n c : Nat} {vl v : Value} {s : JS} {B' m : Nat} {xs : List Value} (h : RJ w B b vl (.slice (some ⟨g, 0, none⟩) n c) s) (ho : w.ownsRow B' 5 1 v m xs) (hg : w.grownBy w5 v.ownBlock) (o : Nat) : w5.cell? ⟨g, o, none⟩ = w.cell? ⟨g, o, none⟩ := by
  obtain ⟨vs, h1, _⟩ := h.held
  have hlt := (h1.lt g (by rfl)).2
  have hb : ButOf (fun k => v.ownBlock = some k) w w5 := ButOf.of_grown hg (fun _ e => e)
  exact World.cell?_of_block (hb.block g hlt (fun e => own_own_ne ho h1 (by decide) e rfl))
set_option maxRecDepth 100000 in
set_option maxHeartbeats 4000000 in
theorem rrun_any {w : World} {B b : Nat} {vl vh : Value} {s : JS} (h : RJ w B b vl vh s) (hnx : s.next < rgN s.short) (hf : s.held.length ≤ 100) (hmild : Mild s) :
    Calls Try.prog 45 #[.pointer (some ⟨b, 0, none⟩)] w fun e w' => ∃ v a e', e = .returned (.tuple #[v, .int .i64 (a : Nat), .int .i64 (e' : Nat)]) ∧ RunR w' w.heap.size v a e' (rrunF 0 0 [] (runP s)) ∧ Below w.heap.size w w' := by
  obtain ⟨i0, hi, hz0, hz1, hz2⟩ := info_parts Try.info5
  have hi' := Lib.hid hi; clear hi
  have hfew := runP_few hnx hf
  have hmem := fun k (p : Pc) (hk : (runP s)[k]? = some p) => runF_mem (List.mem_iff_getElem?.2 ⟨k, hk⟩)
  obtain ⟨ah, ch, rfl⟩ := h.slice
  obtain ⟨X, hX⟩ : ∃ X, rrunF 0 0 [] (runP s) = X := ⟨_, rfl⟩
  rw [hX]
  have hat := fun k (hk : k ≤ (runP s).length) => run_at hnx hf hk
  generalize runP s = ps at *
  have hpsI : (ps.length : Int) ≤ 100 := by omega
  have hnI : (s.next : Int) < (rgN s.short : Int) := by omega
  go_enter Try.func45, Try.ntmps45
  go_wp2_with fail
  go_loopw [5, 6, 7] (fun v5 v6 v7 wr => ∃ (k an : Nat) (acc : List UInt8) (g c : Nat), v5 = .slice (some ⟨g, 0, none⟩) acc.length c ∧ v6 = .int .i64 an ∧ v7 = .int .i64 k ∧ wr.ownsRow w.heap.size 5 1 v5 acc.length (acc.map bv) ∧ k ≤ ps.length ∧ an ≤ k ∧ acc.length ≤ k * 100000 ∧
    Hid (rrunF k an acc (ps.drop k) = X) ∧ Below w.heap.size w wr) (fun _ _ v7 _ => ps.length + 1 - (intOf v7).toNat)
  case atStart => exact ⟨0, 0, [], _, _, rfl, rfl, rfl, by simpa using own_of_blk (Blk.new w #[] 5) (Nat.le_refl _) (Nat.le_refl 0) (Nat.zero_le _) rfl, Nat.zero_le _, Nat.le_refl _, Nat.zero_le _, Lib.hid (by simpa using hX), below_alloc (Below.refl _ _) _ (Nat.le_refl _)⟩
  case round =>
    obtain ⟨k, an, acc, g5, c5, rfl, rfl, rfl, ho, hk, hank, hac, hE, hb⟩ := hrel
    have hr := h.below hb
    have hgk := hat k hk
    have gr2 := hr.c2
    have gr4 := hr.c4
    have hon := Lib.hid (ron_any s.next k hr hnx (by omega))
    have hms : ps.length + 1 - (intOf (.int .i64 ((k : Int) + 1))).toNat < ps.length + 1 - (intOf (.int .i64 (k : Int))).toNat := by simp [intOf]; omega
    replace hms := Lib.hid hms
    have hkI : (k : Int) ≤ 100 := by omega
    have hanI : (an : Int) ≤ (k : Int) := by omega
    generalize hn' : (s.next + k) % rgN s.short = n' at hon hgk
    replace hn' := Lib.hid hn'
    cases hpk : ps[k]? with
    | none =>
      rw [hpk] at hgk
      have hfd := Lib.hid (rfind_no n' hr (by omega) hgk)
      have hdr : ps.drop k = [] := List.drop_of_length_le (by rw [List.getElem?_eq_none_iff] at hpk; exact hpk)
      have e := hE.out
      rw [hdr] at e
      replace e := Lib.hid e
      clear hgk hpk hdr
      go_wp2_with (first | (go_at_call 44; refine hon.out.mono ?_; rintro e w' ⟨rfl, rfl⟩) | (go_at_call 35; refine hfd.out.mono ?_; rintro e w' ⟨rfl, rfl⟩))
      go_ret3
      refine ⟨_, 0, 0, rfl, ?_, hb⟩
      rw [← e.out]
      exact ⟨rfl, rfl, rfl⟩
    | some p =>
      rw [hpk] at hgk
      obtain ⟨i, hq, hne⟩ := find_ex hgk
      have hfd := Lib.hid (rfind_yes hr (by omega) hq hne)
      obtain ⟨g, c, x, ex, hg, q0, q1, q2, q3, hx⟩ := hr.at_ hq
      cases ex
      obtain ⟨m0, hm0⟩ := hmem k p hpk
      have hpb : p.b.length ≤ 100000 := hmild _ hm0
      obtain ⟨hkl, hpe⟩ := List.getElem?_eq_some_iff.1 hpk
      have hil : i < s.held.length := (List.getElem?_eq_some_iff.1 hq).1
      have hiI : (i : Int) < (s.held.length : Int) := by omega
      have hcons : ps.drop k = p :: ps.drop (k + 1) := by rw [List.drop_eq_getElem_cons hkl, hpe]
      have hE2 := hE.out
      rw [hcons] at hE2
      have hB := Bts.of_own hx (by omega)
      obtain ⟨xa, xc, rfl, hxB⟩ := hB
      obtain ⟨m, hml⟩ : ∃ m, p.b.length = m := ⟨_, rfl⟩
      rw [hml] at q3 hxB hpb
      have hm1 : acc.length + m ≤ maxLen := by unfold maxLen; omega
      have hm2 : (acc.length + m) * 1 ≤ 140737488355328 := by omega
      have hac2 : acc.length + m ≤ (k + 1) * 100000 := by omega
      have hsz := hb.size
      rw [rrunF] at hE2
      replace hml := Lib.hid hml
      replace hac2 := Lib.hid hac2
      clear hgk hpk hcons hq hne hx hm0 hpe hE hat hmem hX
      generalize p.b = pb at hE2 hxB hml
      by_cases hkz : k = 0
      · cases hlst : p.last
        · have ha0 : an = 0 := by omega
          have e1 : (if 0 < k ∧ p.first = true ∧ an = 0 then k else an) = 0 := by rw [if_neg (by omega)]; exact ha0
          rw [e1] at hE2
          have hkI2 : ¬ ((0 : Int) < (k : Int)) := by omega
          have haI : ¬ ((0 : Int) < (an : Int)) := by omega
          rw [hlst] at q2
          replace e1 := Lib.hid e1
          have q2b : ∀ w5, wr.grownBy w5 (Value.slice (some ⟨g5, 0, none⟩) acc.length c5).ownBlock → w5.cell? ⟨g, i * 4 + 2, none⟩ = some (.bool false) := fun w5 hg5 => (held_cell hr ho hg5 (i * 4 + 2)).trans q2
          rw [if_neg (by rw [hlst]; decide)] at hE2
          replace hE2 := Lib.hid hE2
          replace ha0 := Lib.hid ha0
          replace hkz := Lib.hid hkz
          replace hlst := Lib.hid hlst
          have hnn0 : (Value.slice (some ⟨g5, 0, none⟩) acc.length c5).ownBlock ≠ none := by simp [Value.ownBlock]
          replace hnn0 := Lib.hid hnn0
          go_wp2_with (first | (go_at_call 44; refine hon.out.mono ?_; rintro e w' ⟨rfl, rfl⟩) | (go_at_call 35; refine hfd.out.mono ?_; rintro e w' ⟨rfl, rfl⟩) | (at_builtin; go_must (refine wp_appB_nn rfl _ _ 27 rfl w.heap.size 5 i0 _ 1 Try.underlying27 hi'.out hz0 hz1 hz2 rfl _ _ _ rfl ho hnn0.out xa m xc pb rfl hxB hm1 hm2 hsz ?_)))
          intro v5 w5 ho5 hg5 hnn5
          obtain ⟨r1, r2⟩ := rrun_round hb ho hml.out ho5 hg5 (Nat.le_refl 0)
          obtain ⟨g6, c6, rfl⟩ := own_some ho5 hnn5
          have hj5 := h.below r2
          have gs4 := hj5.c4
          have qs2 := q2b w5 hg5
          clear ho5 hg5 hnn5 ho hb hr gr2 gr4 hxB hon hfd q0 q1 q2 q3 q2b
          go_wp2_with fail
          go_roundw
          case rel => exact ⟨k + 1, 0, acc ++ pb, g6, c6, by rw [List.length_append, hml.out], by rw [ha0.out], rfl, own_congr r1 rfl rfl, by omega, by omega, by rw [List.length_append, hml.out]; exact hac2.out, hE2, r2⟩
          case measure => exact hms.out
        · have ha0 : an = 0 := by omega
          have e1 : (if 0 < k ∧ p.first = true ∧ an = 0 then k else an) = 0 := by rw [if_neg (by omega)]; exact ha0
          rw [e1] at hE2
          have hkI2 : ¬ ((0 : Int) < (k : Int)) := by omega
          have haI : ¬ ((0 : Int) < (an : Int)) := by omega
          rw [hlst] at q2
          replace e1 := Lib.hid e1
          have q2b : ∀ w5, wr.grownBy w5 (Value.slice (some ⟨g5, 0, none⟩) acc.length c5).ownBlock → w5.cell? ⟨g, i * 4 + 2, none⟩ = some (.bool true) := fun w5 hg5 => (held_cell hr ho hg5 (i * 4 + 2)).trans q2
          rw [if_pos hlst] at hE2
          rw [if_neg (by omega)] at hE2
          replace hE2 := Lib.hid hE2
          replace ha0 := Lib.hid ha0
          replace hkz := Lib.hid hkz
          replace hlst := Lib.hid hlst
          have hnn0 : (Value.slice (some ⟨g5, 0, none⟩) acc.length c5).ownBlock ≠ none := by simp [Value.ownBlock]
          replace hnn0 := Lib.hid hnn0
          go_wp2_with (first | (go_at_call 44; refine hon.out.mono ?_; rintro e w' ⟨rfl, rfl⟩) | (go_at_call 35; refine hfd.out.mono ?_; rintro e w' ⟨rfl, rfl⟩) | (at_builtin; go_must (refine wp_appB_nn rfl _ _ 27 rfl w.heap.size 5 i0 _ 1 Try.underlying27 hi'.out hz0 hz1 hz2 rfl _ _ _ rfl ho hnn0.out xa m xc pb rfl hxB hm1 hm2 hsz ?_)))
          intro v5 w5 ho5 hg5 hnn5
          obtain ⟨r1, r2⟩ := rrun_round hb ho hml.out ho5 hg5 (Nat.le_refl 0)
          obtain ⟨g6, c6, rfl⟩ := own_some ho5 hnn5
          have hj5 := h.below r2
          have gs4 := hj5.c4
          have qs2 := q2b w5 hg5
          clear ho5 hg5 hnn5 ho hb hr gr2 gr4 hxB hon hfd q0 q1 q2 q3 q2b
          go_wp2_with fail
          go_ret3
          refine ⟨_, 0, k + 1, rfl, ?_, r2⟩
          rw [← hE2.out]
          exact ⟨⟨g6, c6, by rw [List.length_append, hml.out]; rfl⟩, own_congr r1 rfl rfl, rfl, rfl⟩
      · cases hfst : p.first
        · cases hlst : p.last
          · have e1 : (if 0 < k ∧ p.first = true ∧ an = 0 then k else an) = an := if_neg (fun e => by rw [hfst] at e; exact absurd e.2.1 (by decide))
            rw [e1] at hE2
            have hkI2 : (0 : Int) < (k : Int) := by omega
            rw [hfst] at q1
            rw [hlst] at q2
            replace e1 := Lib.hid e1
            have q2b : ∀ w5, wr.grownBy w5 (Value.slice (some ⟨g5, 0, none⟩) acc.length c5).ownBlock → w5.cell? ⟨g, i * 4 + 2, none⟩ = some (.bool false) := fun w5 hg5 => (held_cell hr ho hg5 (i * 4 + 2)).trans q2
            rw [if_neg (by rw [hlst]; decide)] at hE2
            replace hE2 := Lib.hid hE2
            replace hkz := Lib.hid hkz
            replace hlst := Lib.hid hlst
            replace hfst := Lib.hid hfst
            have hnn0 : (Value.slice (some ⟨g5, 0, none⟩) acc.length c5).ownBlock ≠ none := by simp [Value.ownBlock]
            replace hnn0 := Lib.hid hnn0
            go_wp2_with (first | (go_at_call 44; refine hon.out.mono ?_; rintro e w' ⟨rfl, rfl⟩) | (go_at_call 35; refine hfd.out.mono ?_; rintro e w' ⟨rfl, rfl⟩) | (at_builtin; go_must (refine wp_appB_nn rfl _ _ 27 rfl w.heap.size 5 i0 _ 1 Try.underlying27 hi'.out hz0 hz1 hz2 rfl _ _ _ rfl ho hnn0.out xa m xc pb rfl hxB hm1 hm2 hsz ?_)))
            intro v5 w5 ho5 hg5 hnn5
            obtain ⟨r1, r2⟩ := rrun_round hb ho hml.out ho5 hg5 (Nat.le_refl 0)
            obtain ⟨g6, c6, rfl⟩ := own_some ho5 hnn5
            have hj5 := h.below r2
            have gs4 := hj5.c4
            have qs2 := q2b w5 hg5
            clear ho5 hg5 hnn5 ho hb hr gr2 gr4 hxB hon hfd q0 q1 q2 q3 q2b
            go_wp2_with fail
            go_roundw
            case rel => exact ⟨k + 1, an, acc ++ pb, g6, c6, by rw [List.length_append, hml.out], rfl, rfl, own_congr r1 rfl rfl, by omega, by omega, by rw [List.length_append, hml.out]; exact hac2.out, hE2, r2⟩
            case measure => exact hms.out
          · by_cases hanz : an = 0
            · have e1 : (if 0 < k ∧ p.first = true ∧ an = 0 then k else an) = an := if_neg (fun e => by rw [hfst] at e; exact absurd e.2.1 (by decide))
              rw [e1] at hE2
              have hkI2 : (0 : Int) < (k : Int) := by omega
              rw [hfst] at q1
              rw [hlst] at q2
              replace e1 := Lib.hid e1
              have q2b : ∀ w5, wr.grownBy w5 (Value.slice (some ⟨g5, 0, none⟩) acc.length c5).ownBlock → w5.cell? ⟨g, i * 4 + 2, none⟩ = some (.bool true) := fun w5 hg5 => (held_cell hr ho hg5 (i * 4 + 2)).trans q2
              rw [if_pos hlst] at hE2
              have haI : ¬ ((0 : Int) < (an : Int)) := by omega
              rw [if_neg (by omega)] at hE2
              replace hE2 := Lib.hid hE2
              replace hkz := Lib.hid hkz
              replace hanz := Lib.hid hanz
              replace hlst := Lib.hid hlst
              replace hfst := Lib.hid hfst
              have hnn0 : (Value.slice (some ⟨g5, 0, none⟩) acc.length c5).ownBlock ≠ none := by simp [Value.ownBlock]
              replace hnn0 := Lib.hid hnn0
              go_wp2_with (first | (go_at_call 44; refine hon.out.mono ?_; rintro e w' ⟨rfl, rfl⟩) | (go_at_call 35; refine hfd.out.mono ?_; rintro e w' ⟨rfl, rfl⟩) | (at_builtin; go_must (refine wp_appB_nn rfl _ _ 27 rfl w.heap.size 5 i0 _ 1 Try.underlying27 hi'.out hz0 hz1 hz2 rfl _ _ _ rfl ho hnn0.out xa m xc pb rfl hxB hm1 hm2 hsz ?_)))
              intro v5 w5 ho5 hg5 hnn5
              obtain ⟨r1, r2⟩ := rrun_round hb ho hml.out ho5 hg5 (Nat.le_refl 0)
              obtain ⟨g6, c6, rfl⟩ := own_some ho5 hnn5
              have hj5 := h.below r2
              have gs4 := hj5.c4
              have qs2 := q2b w5 hg5
              clear ho5 hg5 hnn5 ho hb hr gr2 gr4 hxB hon hfd q0 q1 q2 q3 q2b
              go_wp2_with fail
              go_ret3
              refine ⟨_, 0, k + 1, rfl, ?_, r2⟩
              rw [← hE2.out]
              exact ⟨⟨g6, c6, by rw [List.length_append, hml.out]; rfl⟩, own_congr r1 rfl rfl, rfl, rfl⟩
            · have e1 : (if 0 < k ∧ p.first = true ∧ an = 0 then k else an) = an := if_neg (fun e => by rw [hfst] at e; exact absurd e.2.1 (by decide))
              rw [e1] at hE2
              have hkI2 : (0 : Int) < (k : Int) := by omega
              rw [hfst] at q1
              rw [hlst] at q2
              replace e1 := Lib.hid e1
              have q2b : ∀ w5, wr.grownBy w5 (Value.slice (some ⟨g5, 0, none⟩) acc.length c5).ownBlock → w5.cell? ⟨g, i * 4 + 2, none⟩ = some (.bool true) := fun w5 hg5 => (held_cell hr ho hg5 (i * 4 + 2)).trans q2
              rw [if_pos hlst] at hE2
              have haI : (0 : Int) < (an : Int) := by omega
              rw [if_pos (by omega)] at hE2
              replace hE2 := Lib.hid hE2
              replace hkz := Lib.hid hkz
              replace hanz := Lib.hid hanz
              replace hlst := Lib.hid hlst
              replace hfst := Lib.hid hfst
              have hnn0 : (Value.slice (some ⟨g5, 0, none⟩) acc.length c5).ownBlock ≠ none := by simp [Value.ownBlock]
              replace hnn0 := Lib.hid hnn0
              go_wp2_with (first | (go_at_call 44; refine hon.out.mono ?_; rintro e w' ⟨rfl, rfl⟩) | (go_at_call 35; refine hfd.out.mono ?_; rintro e w' ⟨rfl, rfl⟩) | (at_builtin; go_must (refine wp_appB_nn rfl _ _ 27 rfl w.heap.size 5 i0 _ 1 Try.underlying27 hi'.out hz0 hz1 hz2 rfl _ _ _ rfl ho hnn0.out xa m xc pb rfl hxB hm1 hm2 hsz ?_)))
              intro v5 w5 ho5 hg5 hnn5
              obtain ⟨r1, r2⟩ := rrun_round hb ho hml.out ho5 hg5 (Nat.le_refl 0)
              obtain ⟨g6, c6, rfl⟩ := own_some ho5 hnn5
              have hj5 := h.below r2
              have gs4 := hj5.c4
              have qs2 := q2b w5 hg5
              clear ho5 hg5 hnn5 ho hb hr gr2 gr4 hxB hon hfd q0 q1 q2 q3 q2b
              go_wp2_with fail
              go_ret3
              refine ⟨_, an, 0, rfl, ?_, r2⟩
              rw [← hE2.out]
              exact ⟨rfl, rfl, rfl⟩
        · by_cases han : an = 0
          · cases hlst : p.last
            · have e1 : (if 0 < k ∧ p.first = true ∧ an = 0 then k else an) = k := if_pos ⟨by omega, hfst, han⟩
              rw [e1] at hE2
              have hkI2 : (0 : Int) < (k : Int) := by omega
              have haz : ((an : Int) == 0) = true := by rw [beq_iff_eq]; omega
              rw [hfst] at q1
              rw [hlst] at q2
              replace e1 := Lib.hid e1
              have q2b : ∀ w5, wr.grownBy w5 (Value.slice (some ⟨g5, 0, none⟩) acc.length c5).ownBlock → w5.cell? ⟨g, i * 4 + 2, none⟩ = some (.bool false) := fun w5 hg5 => (held_cell hr ho hg5 (i * 4 + 2)).trans q2
              rw [if_neg (by rw [hlst]; decide)] at hE2
              replace hE2 := Lib.hid hE2
              replace hkz := Lib.hid hkz
              replace han := Lib.hid han
              replace hlst := Lib.hid hlst
              replace hfst := Lib.hid hfst
              have hnn0 : (Value.slice (some ⟨g5, 0, none⟩) acc.length c5).ownBlock ≠ none := by simp [Value.ownBlock]
              replace hnn0 := Lib.hid hnn0
              go_wp2_with (first | (go_at_call 44; refine hon.out.mono ?_; rintro e w' ⟨rfl, rfl⟩) | (go_at_call 35; refine hfd.out.mono ?_; rintro e w' ⟨rfl, rfl⟩) | (at_builtin; go_must (refine wp_appB_nn rfl _ _ 27 rfl w.heap.size 5 i0 _ 1 Try.underlying27 hi'.out hz0 hz1 hz2 rfl _ _ _ rfl ho hnn0.out xa m xc pb rfl hxB hm1 hm2 hsz ?_)))
              intro v5 w5 ho5 hg5 hnn5
              obtain ⟨r1, r2⟩ := rrun_round hb ho hml.out ho5 hg5 (Nat.le_refl 0)
              obtain ⟨g6, c6, rfl⟩ := own_some ho5 hnn5
              have hj5 := h.below r2
              have gs4 := hj5.c4
              have qs2 := q2b w5 hg5
              clear ho5 hg5 hnn5 ho hb hr gr2 gr4 hxB hon hfd q0 q1 q2 q3 q2b
              go_wp2_with fail
              go_roundw
              case rel => exact ⟨k + 1, k, acc ++ pb, g6, c6, by rw [List.length_append, hml.out], rfl, rfl, own_congr r1 rfl rfl, by omega, by omega, by rw [List.length_append, hml.out]; exact hac2.out, hE2, r2⟩
              case measure => exact hms.out
            · have e1 : (if 0 < k ∧ p.first = true ∧ an = 0 then k else an) = k := if_pos ⟨by omega, hfst, han⟩
              rw [e1] at hE2
              have hkI2 : (0 : Int) < (k : Int) := by omega
              have haz : ((an : Int) == 0) = true := by rw [beq_iff_eq]; omega
              rw [hfst] at q1
              rw [hlst] at q2
              replace e1 := Lib.hid e1
              have q2b : ∀ w5, wr.grownBy w5 (Value.slice (some ⟨g5, 0, none⟩) acc.length c5).ownBlock → w5.cell? ⟨g, i * 4 + 2, none⟩ = some (.bool true) := fun w5 hg5 => (held_cell hr ho hg5 (i * 4 + 2)).trans q2
              rw [if_pos hlst] at hE2
              rw [if_pos (by omega)] at hE2
              replace hE2 := Lib.hid hE2
              replace hkz := Lib.hid hkz
              replace han := Lib.hid han
              replace hlst := Lib.hid hlst
              replace hfst := Lib.hid hfst
              have hnn0 : (Value.slice (some ⟨g5, 0, none⟩) acc.length c5).ownBlock ≠ none := by simp [Value.ownBlock]
              replace hnn0 := Lib.hid hnn0
              go_wp2_with (first | (go_at_call 44; refine hon.out.mono ?_; rintro e w' ⟨rfl, rfl⟩) | (go_at_call 35; refine hfd.out.mono ?_; rintro e w' ⟨rfl, rfl⟩) | (at_builtin; go_must (refine wp_appB_nn rfl _ _ 27 rfl w.heap.size 5 i0 _ 1 Try.underlying27 hi'.out hz0 hz1 hz2 rfl _ _ _ rfl ho hnn0.out xa m xc pb rfl hxB hm1 hm2 hsz ?_)))
              intro v5 w5 ho5 hg5 hnn5
              obtain ⟨r1, r2⟩ := rrun_round hb ho hml.out ho5 hg5 (Nat.le_refl 0)
              obtain ⟨g6, c6, rfl⟩ := own_some ho5 hnn5
              have hj5 := h.below r2
              have gs4 := hj5.c4
              have qs2 := q2b w5 hg5
              clear ho5 hg5 hnn5 ho hb hr gr2 gr4 hxB hon hfd q0 q1 q2 q3 q2b
              go_wp2_with fail
              go_ret3
              refine ⟨_, k, 0, rfl, ?_, r2⟩
              rw [← hE2.out]
              exact ⟨rfl, rfl, rfl⟩
          · cases hlst : p.last
            · have e1 : (if 0 < k ∧ p.first = true ∧ an = 0 then k else an) = an := if_neg (fun e => han e.2.2)
              rw [e1] at hE2
              have hkI2 : (0 : Int) < (k : Int) := by omega
              have haz : ((an : Int) == 0) = false := by rw [beq_eq_false_iff_ne]; omega
              rw [hfst] at q1
              rw [hlst] at q2
              replace e1 := Lib.hid e1
              have q2b : ∀ w5, wr.grownBy w5 (Value.slice (some ⟨g5, 0, none⟩) acc.length c5).ownBlock → w5.cell? ⟨g, i * 4 + 2, none⟩ = some (.bool false) := fun w5 hg5 => (held_cell hr ho hg5 (i * 4 + 2)).trans q2
              rw [if_neg (by rw [hlst]; decide)] at hE2
              replace hE2 := Lib.hid hE2
              replace hkz := Lib.hid hkz
              replace han := Lib.hid han
              replace hlst := Lib.hid hlst
              replace hfst := Lib.hid hfst
              have hnn0 : (Value.slice (some ⟨g5, 0, none⟩) acc.length c5).ownBlock ≠ none := by simp [Value.ownBlock]
              replace hnn0 := Lib.hid hnn0
              go_wp2_with (first | (go_at_call 44; refine hon.out.mono ?_; rintro e w' ⟨rfl, rfl⟩) | (go_at_call 35; refine hfd.out.mono ?_; rintro e w' ⟨rfl, rfl⟩) | (at_builtin; go_must (refine wp_appB_nn rfl _ _ 27 rfl w.heap.size 5 i0 _ 1 Try.underlying27 hi'.out hz0 hz1 hz2 rfl _ _ _ rfl ho hnn0.out xa m xc pb rfl hxB hm1 hm2 hsz ?_)))
              intro v5 w5 ho5 hg5 hnn5
              obtain ⟨r1, r2⟩ := rrun_round hb ho hml.out ho5 hg5 (Nat.le_refl 0)
              obtain ⟨g6, c6, rfl⟩ := own_some ho5 hnn5
              have hj5 := h.below r2
              have gs4 := hj5.c4
              have qs2 := q2b w5 hg5
              clear ho5 hg5 hnn5 ho hb hr gr2 gr4 hxB hon hfd q0 q1 q2 q3 q2b
              go_wp2_with fail
              go_roundw
              case rel => exact ⟨k + 1, an, acc ++ pb, g6, c6, by rw [List.length_append, hml.out], rfl, rfl, own_congr r1 rfl rfl, by omega, by omega, by rw [List.length_append, hml.out]; exact hac2.out, hE2, r2⟩
              case measure => exact hms.out
            · have e1 : (if 0 < k ∧ p.first = true ∧ an = 0 then k else an) = an := if_neg (fun e => han e.2.2)
              rw [e1] at hE2
              have hkI2 : (0 : Int) < (k : Int) := by omega
              have haz : ((an : Int) == 0) = false := by rw [beq_eq_false_iff_ne]; omega
              rw [hfst] at q1
              rw [hlst] at q2
              replace e1 := Lib.hid e1
              have q2b : ∀ w5, wr.grownBy w5 (Value.slice (some ⟨g5, 0, none⟩) acc.length c5).ownBlock → w5.cell? ⟨g, i * 4 + 2, none⟩ = some (.bool true) := fun w5 hg5 => (held_cell hr ho hg5 (i * 4 + 2)).trans q2
              rw [if_pos hlst] at hE2
              have haI : (0 : Int) < (an : Int) := by omega
              rw [if_pos (by omega)] at hE2
              replace hE2 := Lib.hid hE2
              replace hkz := Lib.hid hkz
              replace han := Lib.hid han
              replace hlst := Lib.hid hlst
              replace hfst := Lib.hid hfst
              have hnn0 : (Value.slice (some ⟨g5, 0, none⟩) acc.length c5).ownBlock ≠ none := by simp [Value.ownBlock]
              replace hnn0 := Lib.hid hnn0
              go_wp2_with (first | (go_at_call 44; refine hon.out.mono ?_; rintro e w' ⟨rfl, rfl⟩) | (go_at_call 35; refine hfd.out.mono ?_; rintro e w' ⟨rfl, rfl⟩) | (at_builtin; go_must (refine wp_appB_nn rfl _ _ 27 rfl w.heap.size 5 i0 _ 1 Try.underlying27 hi'.out hz0 hz1 hz2 rfl _ _ _ rfl ho hnn0.out xa m xc pb rfl hxB hm1 hm2 hsz ?_)))
              intro v5 w5 ho5 hg5 hnn5
              obtain ⟨r1, r2⟩ := rrun_round hb ho hml.out ho5 hg5 (Nat.le_refl 0)
              obtain ⟨g6, c6, rfl⟩ := own_some ho5 hnn5
              have hj5 := h.below r2
              have gs4 := hj5.c4
              have qs2 := q2b w5 hg5
              clear ho5 hg5 hnn5 ho hb hr gr2 gr4 hxB hon hfd q0 q1 q2 q3 q2b
              go_wp2_with fail
              go_ret3
              refine ⟨_, an, 0, rfl, ?_, r2⟩
              rw [← hE2.out]
              exact ⟨rfl, rfl, rfl⟩
end Go.Proofs.Ytglmlhbchfgliaa
