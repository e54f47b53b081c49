/-
  The walk of the statement BitsBack. No conditions.
-/
import Derived.Test.YtdfoimgckahjpaaBitsWrites
import Derived.Test.YtdfoimgckahjpaaBitsRd2
namespace Go.Proofs.Ytdfoimgckahjpaa
open Go.RowKit
theorem Try.info46 : (Try.prog.info? 46).map (fun i => (i.zero, i.size, i.bytes)) = some (some (.agg #[.int .i64 0, .int .i64 0, .int .i64 0, .slice none 0 0]), 4, 48) := by kernel_rfl
def dvCells (g : DV) : List Value := [.int .i64 g.d, .int .i64 g.x, .int .i64 g.n, .slice g.ba g.bn g.bc]
theorem flat_get (ps : List DV) (j t : Nat) (ht : t < 4) (g : DV) (hg : ps[j]? = some g) : (ps.flatMap dvCells)[j * 4 + t]? = (dvCells g)[t]? := by
  induction ps generalizing j with
  | nil => simp at hg
  | cons p ps ih =>
    rw [List.flatMap_cons]
    cases j with
    | zero =>
      simp at hg; subst hg
      rw [Nat.zero_mul, Nat.zero_add, List.getElem?_append_left (by simpa [dvCells] using ht)]
    | succ j =>
      rw [List.getElem?_append_right (by simp [dvCells]; omega), show (j + 1) * 4 + t - (dvCells p).length = j * 4 + t by simp [dvCells]; omega]
      exact ih j (by simpa using hg)
theorem flat_len (ps : List DV) : (ps.flatMap dvCells).length = ps.length * 4 := by
  induction ps with
  | nil => rfl
  | cons p ps ih => rw [List.flatMap_cons, List.length_append, ih, List.length_cons]; simp [dvCells]; omega
/-- the bits of all numbers, one behind the other -/
def bitsP (high : Bool) (ps : List DV) : List Bool := ps.flatMap fun g => numBits high g.x.toNat g.n.toNat g.n.toNat
theorem bitsP_append (high : Bool) (a b : List DV) : bitsP high (a ++ b) = bitsP high a ++ bitsP high b := List.flatMap_append
theorem bitsP_cons (high : Bool) (g : DV) (b : List DV) : bitsP high (g :: b) = numBits high g.x.toNat g.n.toNat g.n.toNat ++ bitsP high b := List.flatMap_cons
theorem bitsP_one (high : Bool) (g : DV) : bitsP high [g] = numBits high g.x.toNat g.n.toNat g.n.toNat := by rw [bitsP_cons]; exact List.append_nil _
theorem bitsP_split (high : Bool) (ps : List DV) (j : Nat) (g : DV) (hg : ps[j]? = some g) :
    bitsP high ps = bitsP high (ps.take j) ++ numBits high g.x.toNat g.n.toNat g.n.toNat ++ bitsP high (ps.drop (j + 1)) := by
  obtain ⟨hj, rfl⟩ := List.getElem?_eq_some_iff.1 hg
  have e : ps = ps.take j ++ ps[j] :: ps.drop (j + 1) := by rw [← List.drop_eq_getElem_cons hj, List.take_append_drop]
  conv => lhs; rw [e]
  rw [bitsP_append, bitsP_cons, List.append_assoc]
theorem bitsP_take (high : Bool) (ps : List DV) (j : Nat) (g : DV) (hg : ps[j]? = some g) : bitsP high (ps.take (j + 1)) = bitsP high (ps.take j) ++ numBits high g.x.toNat g.n.toNat g.n.toNat := by
  obtain ⟨hj, rfl⟩ := List.getElem?_eq_some_iff.1 hg
  rw [List.take_succ_eq_append_getElem hj, bitsP_append, bitsP_one]
/-- all of them were put -/
def GoodP (ps : List DV) : Prop := ∀ (j : Nat) (g : DV), ps[j]? = some g → ∃ xx nn : Nat, g.x = (xx : Int) ∧ g.n = (nn : Int) ∧ nn ≤ 32 ∧ xx < 2 ^ nn
theorem bitsP_len (high : Bool) (ps : List DV) (h : GoodP ps) : (bitsP high ps).length ≤ 32 * ps.length := by
  induction ps with
  | nil => simp [bitsP]
  | cons p ps ih =>
    obtain ⟨xx, nn, _, hn, h32, _⟩ := h 0 p rfl
    have := ih (fun j g hg => h (j + 1) g hg)
    rw [bitsP_cons, List.length_append, numBits_length, hn, Int.toNat_natCast, List.length_cons]; omega
theorem own_types {w : World} {B B' E E' s s' n n' : Nat} {v v' : Value} {xs xs' : List Value} (h : w.ownsRow B E s v n xs) (h' : w.ownsRow B' E' s' v' n' xs') (hE : E ≠ E') : Apart v v' := by
  intro k hk hk'
  rcases h.2 with ⟨rfl, _⟩ | ⟨g, cap, cur, rfl, _, hh, _⟩
  · simp [Value.ownBlock] at hk
  · rcases h'.2 with ⟨rfl, _⟩ | ⟨g', cap', cur', rfl, _, hh', _⟩
    · simp [Value.ownBlock] at hk'
    · have e1 : g = k := by simpa [Value.ownBlock] using hk
      have e2 : g' = k := by simpa [Value.ownBlock] using hk'
      subst e1; subst e2
      rw [hh] at hh'
      injection hh' with hh'
      injection hh' with _ ht
      exact hE ht
theorem num_zero {high : Bool} {f : Nat → Bool} {k : Nat} (hf : ∀ j, j < k → f j = false) : num high f k k = 0 := by
  apply Nat.eq_of_testBit_eq
  intro j
  rw [num_testBit high f k k (Nat.le_refl _), Nat.zero_testBit]
  by_cases h : j < k
  · rw [hf _ (plc_lt h)]; simp
  · simp [h]
/-- append of one element of some cells that lies in a new block of its own, onto an own row; where the new row lies -/
theorem wp_appS_at {P : Program} {w : World} {ops : Array Oper} {rest : List Oper} {o : Oper} {a : Act} {Q : Exit → Act → World → Prop} (hgd : o.guard = none) (s x : Operand) (t : TypeId)
    (ho : o.op = .call { callee := .builtin .append, args := #[s, x], argTypes := #[t, t] })
    (base : Nat) (e : TypeId) (i : TypeInfo) (z : Value) (size bytes : Nat) (ht : P.underlying t = some (.slice e)) (hi : P.info? e = some i) (hz : i.zero = some z)
    (hsize : i.size = size) (hby : i.bytes = bytes) (hzs : z.cells.size = size) (hsz : 0 < size)
    (v : Value) (n : Nat) (xs : List Value) (hs : a.eval s = v) (hown : w.ownsRow base e size v n xs)
    (qs : List Value) (hql : qs.length = size) (hq : ∀ u ∈ qs, u.oneCell' = true) (hx : a.eval x = .slice (some ⟨w.heap.size, 0, none⟩) 1 1)
    (hmax : n + 1 ≤ maxLen) (hbytes : (n + 1) * bytes ≤ 140737488355328) (hbase : base ≤ w.heap.size)
    (h : ∀ v' w', w'.ownsRow base e size v' (n + 1) (xs ++ qs) → w.grownBy w' v.ownBlock → Next w v v' → wpList P ops Q rest (a.put o.dst v') w') :
    wpList P ops Q (o :: rest) a (w.alloc (.cells qs.toArray e)) := by
  refine wpList_append_own_at _ hgd s x t ho base e i z size bytes ht hi hz hsize hby hzs hsz v n xs hs (hown.alloc _) ⟨w.heap.size, 0, none⟩ 1 1 qs hx (by omega) ?_ hq hmax hbytes (by simp; omega) ?_
  · intro j u hj
    rw [addr_add, World.cell?_alloc_at _ _ _ _ rfl]
    simpa using hj
  · intro v' w' ho' hg _ hat
    refine h v' w' ho' ⟨hg.os, hg.tape, hg.output, ?_, ?_⟩ ?_
    · have := hg.size; simp at this; omega
    · intro k hk hne
      rw [hg.block k (by simp; omega) hne]
      exact Below.heap_alloc _ _ _ hk
    · intro k hk
      rcases hat with e | e
      · exact .inl (by rw [← e]; exact hk)
      · rw [e] at hk; cases hk; right; simp
theorem own_slice {w : World} {B E s n : Nat} {v : Value} {xs : List Value} (h : w.ownsRow B E s v n xs) : ∃ a c, v = .slice a n c ∧ (0 < n → ∃ r, a = some ⟨r, 0, none⟩) ∧ n ≤ c ∧ c ≤ 9223372036854775807 := by
  rcases h.2 with ⟨rfl, rfl⟩ | ⟨g, cap, cur, rfl, _, _, h1, h2, _⟩
  · exact ⟨none, 0, rfl, fun h => by omega, by omega, by omega⟩
  · exact ⟨_, cap, rfl, fun _ => ⟨g, rfl⟩, h1, by unfold maxLen at h2; exact h2⟩
theorem back_out {w : World} {a : Option Addr} {n c : Nat} {f : Nat → DV} {high : Bool} (h : Deeds w a n c f) (hr : roomB n f = false) :
    Calls Try.prog 7 #[.bool high, .slice a n c] w fun e w' => e = .returned (.bool true) ∧ Below w.heap.size w w' := by
  have hc1 := h.cap
  have hc2 := h.most
  have hroom := fun W (hb : Below w.heap.size w W) => room_any (h.below hb)
  rw [hr] at hroom
  have hroom' := Lib.hid hroom
  clear hroom hr
  go_enter Try.func7, Try.ntmps7
  go_wp2_with (go_at_call 15; refine (awake_any _).mono ?_; rintro e w0 ⟨rfl, hb0⟩)
  refine (hroom'.out _ hb0).mono ?_
  rintro e w0' ⟨rfl, rfl⟩
  go_wp2_with fail
  go_ret
  exact ⟨rfl, hb0⟩
set_option maxRecDepth 100000 in
set_option maxHeartbeats 4000000 in
theorem back_in {w : World} {a : Option Addr} {n c : Nat} {f : Nat → DV} {high : Bool} (h : Deeds w a n c f) (hr : roomB n f = true) :
    Calls Try.prog 7 #[.bool high, .slice a n c] w fun e w' => e = .returned (.bool true) ∧ Below w.heap.size w w' := by
  obtain ⟨hn, -⟩ := roomB_yes hr
  have hc1 := h.cap
  have hc2 := h.most
  have hroom := fun W (hb : Below w.heap.size w W) => room_any (h.below hb)
  rw [hr] at hroom
  have hroom' := Lib.hid hroom
  clear hroom hr
  obtain ⟨i0, hi, hz0, hz1, hz2⟩ := info_parts Try.info46
  have hi' := Lib.hid hi; clear hi
  go_enter Try.func7, Try.ntmps7
  go_wp2_with (go_at_call 15; refine (awake_any _).mono ?_; rintro e w0 ⟨rfl, hb0⟩)
  refine (hroom'.out _ hb0).mono ?_
  rintro e w0' ⟨rfl, rfl⟩
  clear hroom'
  go_wp2_with fail
  refine (new_writer high w0).mono ?_
  rintro e w1 ⟨rfl, hW1, hb1'⟩
  have hb1 := hb0.trans (hb1'.mono hb0.size)
  have s0 := hb0.size
  have s1 := hb1'.size
  clear hb1'
  go_wp2_with fail
  go_loopw [6, 7] (fun vp i wr => ∃ (k : Nat) (v1 : Value) (ps : List DV), k ≤ n ∧ i = .int .i64 k ∧ ps.length ≤ k ∧ GoodP ps ∧ Wr wr w0.heap.size w0.heap.size v1 high (bitsP high ps) ∧ wr.ownsRow w0.heap.size 46 4 vp ps.length (ps.flatMap dvCells) ∧ Below w.heap.size w wr ∧ w0.heap.size ≤ wr.heap.size) (fun _ i _ => n - (intOf i).toNat)
  case atStart => exact ⟨0, _, [], by omega, rfl, by simp, fun j g hg => by simp at hg, hW1, World.ownsRow_nil _ _ _ _, hb1, s1⟩
  case round =>
    clear hW1 hb1
    obtain ⟨k, v1, ps, hk, rfl, hpl, hgp, hW, ho, hb, hsz⟩ := hrel
    have hbl := bitsP_len high ps hgp
    by_cases hlt : k < n
    · obtain ⟨b, o, rfl, g0, g1, g2, g3⟩ := h.at_ hb hlt
      obtain ⟨r0, r1, r2⟩ := h.rng k hlt
      unfold I64 at r0 r1 r2
      have hk1 : (0 : Int) ≤ (k : Int) := by omega
      have hk2 : (k : Int) < (n : Int) := by omega
      have hcell := Lib.hid (fun W (hW : Below w.heap.size w W) => h.get hW hlt)
      have hap := own_types hW.own ho (by decide)
      generalize f k = F at *
      obtain ⟨D, X, N, ba, bn, bc, zs⟩ := F
      simp only at g0 g1 g2 g3 r0 r1 r2 hcell
      have hov := own_blk_ne ho hW.blk (by decide)
      by_cases hp : Fits X N
      · obtain ⟨h1, h2, h3, h4⟩ := hp
        obtain ⟨nn, rfl⟩ := Int.eq_ofNat_of_zero_le h1
        obtain ⟨xx, rfl⟩ := Int.eq_ofNat_of_zero_le h3
        rw [Int.toNat_natCast] at h4
        have hxx : xx < 2 ^ nn := Int.ofNat_lt.1 h4
        have hgood : GoodP (ps ++ [(⟨D, (xx : Int), (nn : Int), ba, bn, bc, zs⟩ : DV)]) := by
          intro j g hg
          by_cases hj : j < ps.length
          · rw [List.getElem?_append_left hj] at hg; exact hgp j g hg
          · rw [List.getElem?_append_right (by omega)] at hg
            have hj0 : j - ps.length = 0 := by
              have := (List.getElem?_eq_some_iff.1 hg).1; simp at this; omega
            rw [hj0] at hg
            simp at hg; subst hg
            exact ⟨xx, nn, rfl, rfl, by omega, hxx⟩
        have hbits : bitsP high (ps ++ [(⟨D, (xx : Int), (nn : Int), ba, bn, bc, zs⟩ : DV)]) = bitsP high ps ++ numBits high xx nn nn := by
          rw [bitsP_append, bitsP_one]; simp only [Int.toNat_natCast]
        have hbits' := Lib.hid hbits; clear hbits
        have hflat : (ps ++ [(⟨D, (xx : Int), (nn : Int), ba, bn, bc, zs⟩ : DV)]).flatMap dvCells = ps.flatMap dvCells ++ [.int .i64 D, .int .i64 (xx : Int), .int .i64 (nn : Int), .slice ba bn bc] := by
          rw [List.flatMap_append]; rfl
        have hflat' := Lib.hid hflat; clear hflat
        have p1 := Lib.hid (put_yes hW.drew xx nn (by omega) hxx (by show w0.heap.size ≤ wr.heap.size; omega) (by omega))
        have hbd := hb.drew
        go_wp2_with fail
        go_region_held3 (fun W => W.cell? ⟨b, o + k * 4 + 1, none⟩ = some (.int .i64 (xx : Int)) ∧ W.cell? ⟨b, o + k * 4 + 2, none⟩ = some (.int .i64 (nn : Int))) (first | exact ⟨g1, g2⟩ | exact ⟨g1', g2'⟩) ((go_at_call 22; refine p1.out.mono ?_; rintro e w3 ⟨v3, rfl, hW3, hB3, hn3⟩; have hb3 := below_frame hbd hB3 (fun j _ hj => Nat.le_trans s0 (hW.foot (Nat.le_refl _) j hj).1) hbd.size; obtain ⟨g0', g1', g2', g3'⟩ := hcell.out w3 hb3))
        have ho3 := own_but ho.drew hB3 (fun j hj hf => by
          rcases hf with e | e
          · exact hov (by rw [hj, e])
          · exact hap j e hj)
        have s3 : w0.heap.size ≤ w3.heap.size := Nat.le_trans hsz hB3.size
        clear hW hB3 hn3 p1 hbd ho hap hov g0 g1 g2 g3
        go_wp2_with (at_builtin; go_must (refine wp_appS_at rfl _ _ 43 rfl w0.heap.size 46 i0 _ 4 48 Try.underlying43 hi'.out hz0 hz1 hz2 rfl (by decide) _ _ _ rfl ho3 [.int .i64 D, .int .i64 (xx : Int), .int .i64 (nn : Int), .slice ba bn bc] rfl (by intro u hu; simp at hu; rcases hu with rfl | rfl | rfl | rfl <;> rfl) rfl (by unfold maxLen; omega) (by omega) s3 ?_))
        intro v5 w5 ho5 hg5 _hn5
        have hap3 := own_types hW3.own ho3 (by decide)
        have hov3 := own_blk_ne ho3 hW3.blk (by decide)
        have hW5 := hW3.but (ButOf.of_grown (K := fun i => _ = some i) hg5 (fun i hi => hi)) hov3 (fun i hi => hap3 i hi)
        have hb5 := below_grown hb3 (own_mono ho3 s0) hg5 hb3.size
        have s5 := Nat.le_trans s3 hg5.size
        rw [← hflat'.out] at ho5
        rw [← hbits'.out] at hW5
        clear hW3 hg5 hap3 hov3 ho3 g0' g1' g2' g3' hb3
        go_wp2_with fail
        go_roundw
        case rel => exact ⟨k + 1, _, _, by omega, by go_num, by simp; omega, hgood, hW5, own_congr ho5 (by simp) rfl, hb5, s5⟩
        case measure => simp [intOf]; omega
      · have p1 := Lib.hid (put_no hW.drew N X (not_fits hp) r1.2)
        have hbd := hb.drew
        have hWd := hW.drew
        have hod := ho.drew
        clear hp hW ho hb
        go_wp2_with fail
        go_region_held3 (fun W => W.cell? ⟨b, o + k * 4 + 1, none⟩ = some (.int .i64 X) ∧ W.cell? ⟨b, o + k * 4 + 2, none⟩ = some (.int .i64 N)) (exact ⟨g1, g2⟩) ((go_at_call 22; refine p1.out.mono ?_; rintro e w3 ⟨rfl, rfl⟩))
        go_wp2_with fail
        go_roundw
        case rel => exact ⟨k + 1, v1, ps, by omega, by go_num, by omega, hgp, hWd, hod, hbd, hsz⟩
        case measure => simp [intOf]; omega
    · obtain rfl : k = n := by omega
      go_wp2_with fail
      refine (wbytes_any hW).mono ?_
      rintro e w3 ⟨a3, c3, rfl, ho3, hb3'⟩
      have hb3 := hb.trans (hb3'.mono hb.size)
      have hB3 := own_bts ho3 (by rw [packB_length]; omega)
      have hp3 := own_below ho hb3'
      have s3 := Nat.le_trans hsz hb3'.size
      have hpk := Lib.hid (packB_length high (bitsP high ps))
      have hpl5 : (packB high (bitsP high ps)).length ≤ 1000 := by have := hpk.out; omega
      clear hW ho hb3' ho3 hb
      go_wp2_with fail
      refine (new_reader _ _ _ _ high _ hB3 (by omega)).mono ?_
      rintro e w4 ⟨b4, a4, c4, rfl, hR4, hl4, -, hb4'⟩
      have hb4 := hb3.trans (hb4'.mono hb3.size)
      have hp4 := own_below hp3 hb4'
      have s4 := hb3.size
      have hov := own_blk_ne hp4 hR4.blk (by decide)
      obtain ⟨pa, pc, rfl, hpa, hpc1, hpc2⟩ := own_slice hp4
      clear hB3 hp3 hb4' hb3
      go_wp2_with fail
      go_loopw [9] (fun i wr => ∃ j : Nat, j ≤ ps.length ∧ i = .int .i64 j ∧ Rd wr b4 a4 c4 high (packB high (bitsP high ps)) (bitsP high (ps.take j)).length ∧ wr.ownsRow w0.heap.size 46 4 (.slice pa ps.length pc) ps.length (ps.flatMap dvCells) ∧ Below w.heap.size w wr) (fun i _ => ps.length - (intOf i).toNat)
      case atStart => exact ⟨0, by omega, rfl, hR4, hp4, hb4⟩
      case round =>
        clear hR4 hp4 hb4
        obtain ⟨j, hj, rfl, hR, hp, hb⟩ := hrel
        by_cases hlt2 : j < ps.length
        · obtain ⟨r, rfl⟩ := hpa (by omega)
          have hgj : ps[j]? = some ps[j] := List.getElem?_eq_getElem hlt2
          have hsp := bitsP_split high ps j _ hgj
          have htk := bitsP_take high ps j _ hgj
          obtain ⟨xx, nn, e1, e2, h32, hxx⟩ := hgp j _ hgj
          have hcells := fun (W : World) (hW : W.ownsRow w0.heap.size 46 4 (.slice (some ⟨r, 0, none⟩) ps.length pc) ps.length (ps.flatMap dvCells)) => And.intro ((hW.cellAt (j * 4 + 1) (by omega)).trans (flat_get ps j 1 (by decide) _ hgj)) ((hW.cellAt (j * 4 + 2) (by omega)).trans (flat_get ps j 2 (by decide) _ hgj))
          simp only [dvCells, List.getElem?_cons_zero, List.getElem?_cons_succ, e1, e2] at hcells
          rw [e1, e2, Int.toNat_natCast, Int.toNat_natCast] at hsp htk
          generalize ps[j] = F at *
          have hcells' := Lib.hid hcells
          obtain ⟨q1, q2⟩ := hcells _ hp
          have htot : (bitsP high ps).length = (bitsP high (ps.take j)).length + nn + (bitsP high (ps.drop (j + 1))).length := by rw [hsp, List.length_append, List.length_append, numBits_length]
          have hnr := num_read high (bitsP high (ps.take j)) (bitsP high (ps.drop (j + 1))) xx nn hxx
          rw [← hsp] at hnr
          have htl : (bitsP high (ps.take (j + 1))).length = (bitsP high (ps.take j)).length + nn := by rw [htk, List.length_append, numBits_length]
          have hroom2 : (bitsP high (ps.take j)).length + nn ≤ 8 * (packB high (bitsP high ps)).length := by have := hpk.out; omega
          have t1 := peek_yes hR nn h32 nn (by omega)
          have t2 := fun W (hW : Rd W b4 a4 c4 high (packB high (bitsP high ps)) (bitsP high (ps.take j)).length) => take_yes hW nn h32 hroom2
          simp only [hnr] at t1 t2
          have t1' := Lib.hid t1
          have t2' := Lib.hid t2
          have htl' := Lib.hid htl
          clear t1 t2 hnr hsp htk htl htot hcells hgj e1 e2
          go_wp2_with fail
          refine t1'.out.mono ?_
          rintro e w5 ⟨rfl, hb5'⟩
          have hR5 := hR.below hb5' (Nat.le_refl _)
          have hp5 := own_below hp hb5'
          have hb5 := hb.trans (hb5'.mono hb.size)
          obtain ⟨q1', q2'⟩ := hcells'.out _ hp5
          clear hR hp hb hb5' q1 q2 t1'
          go_wp2_with fail
          refine (t2'.out _ hR5).mono ?_
          rintro e w6 ⟨rfl, hR6, hg6⟩
          have hp6 := own_but hp5 (ButOf.of_grown (K := fun i => i = b4) hg6 (fun i hi => (Option.some.inj hi).symm)) (fun i hi e => hov (by rw [hi, e]))
          have hb6 := below_grow hb5 hg6 hb5.size (by omega)
          obtain ⟨q1'', q2''⟩ := hcells'.out _ hp6
          clear hR5 hp5 hb5 hg6 q1' q2' t2'
          go_wp2_with fail
          go_roundw
          case rel => exact ⟨j + 1, by omega, by go_num, by rw [htl'.out]; exact hR6, hp6, hb6⟩
          case measure => simp [intOf]; omega
        · obtain rfl : j = ps.length := by omega
          rw [List.take_of_length_le (Nat.le_refl _)] at hR
          have t1 := left_any hR
          have hpo := hpk.out
          have hlf : 8 * (packB high (bitsP high ps)).length - (bitsP high ps).length ≤ 7 := by omega
          have t2 := fun W (hW : Rd W b4 a4 c4 high (packB high (bitsP high ps)) (bitsP high ps).length) => take_yes hW (8 * (packB high (bitsP high ps)).length - (bitsP high ps).length) (by omega) (by omega)
          rw [num_zero (fun i _ => by rw [bitAt_packB]; exact getD_of_ge (by omega))] at t2
          generalize 8 * (packB high (bitsP high ps)).length - (bitsP high ps).length = L at *
          have t1' := Lib.hid t1
          have t2' := Lib.hid t2
          clear t1 t2 hpo
          go_wp2_with fail
          refine t1'.out.mono ?_
          rintro e w5 ⟨rfl, m, rfl⟩
          have hR5 := hR.below (below_drewN (Below.refl _ _) m) (Nat.le_refl _)
          have hb5 := below_drewN hb m
          clear hR hb t1' hp
          generalize wr.drewN m = w5 at *
          go_wp2_with fail
          refine (t2'.out _ hR5).mono ?_
          rintro e w6 ⟨rfl, hR6, hg6⟩
          have hb6 := below_grow hb5 hg6 hb5.size (by omega)
          clear hR5 hg6 t2' hR6
          go_wp2_with fail
          go_ret
          exact ⟨ret_bool (by first | (simp; done) | (simp; omega)), hb6⟩
end Go.Proofs.Ytdfoimgckahjpaa
