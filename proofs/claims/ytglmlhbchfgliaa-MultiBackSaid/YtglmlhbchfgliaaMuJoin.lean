/-
  A row of fragments is joined: plainly, and the program's walk. Conditions: a fragment has no more than 100000 bytes.
-/
import Derived.Test.YtglmlhbchfgliaaMuRun
namespace Go.Proofs.Ytglmlhbchfgliaa
open Go.RowKit Go.Maps
/-- what joining the fragments from number i on does, with the bytes acc so far: nothing, or so many are passed by, with a datagram or none -/
def joinF (most : Nat) : Nat → List UInt8 → List Pc → Option (Nat × Option (List UInt8))
  | _, _, [] => none
  | i, acc, p :: r =>
    if 0 < i ∧ p.first = true then (if (p :: r).any (·.last) then some (i, none) else none)
    else if p.last then some (i + 1, if (acc ++ p.b).length ≤ most then some (acc ++ p.b) else none)
    else joinF most (i + 1) (acc ++ p.b) r
def joinP (most : Nat) : List Pc → Option (Nat × Option (List UInt8))
  | [] => none
  | p :: r => if p.first then joinF most 0 [] (p :: r) else none
/-- the state behind it -/
def joinS (s : JS) : Option (Nat × Option (List UInt8)) → JS
  | none => s
  | some (k, _) => passP s k
/-- the datagram -/
def joinD : Option (Nat × Option (List UInt8)) → List (List UInt8)
  | some (_, some d) => [d]
  | _ => []
theorem joinP_cons {most : Nat} {p : Pc} {r : List Pc} (h : p.first = true) : joinP most (p :: r) = joinF most 0 [] (p :: r) := by rw [joinP, if_pos h]
theorem joinP_no {most : Nat} {p : Pc} {r : List Pc} (h : p.first = false) : joinP most (p :: r) = none := by rw [joinP, if_neg (by simp [h])]
/-- no fragment is too great -/
def Mild (s : JS) : Prop := ∀ p ∈ s.held, p.2.b.length ≤ 100000
theorem Mild.pass {s : JS} (h : Mild s) (n : Nat) : Mild (passP s n) := fun p hp => h p (List.mem_filter.1 hp).1
theorem getP_mem {held : List (Nat × Pc)} {n : Nat} {p : Pc} (h : getP held n = some p) : (n, p) ∈ held := by
  unfold getP at h
  cases hf : held.find? (fun p => decide (p.1 = n)) with
  | none => rw [hf] at h; cases h
  | some q =>
    rw [hf] at h
    obtain rfl : q.2 = p := by simpa using h
    have h1 := List.find?_some hf
    have h2 := List.mem_of_find?_eq_some hf
    obtain ⟨m, q⟩ := q
    obtain rfl : m = n := by simpa using h1
    exact h2
theorem runF_mem {R : Nat} {held : List (Nat × Pc)} : ∀ {f n : Nat} {p : Pc}, p ∈ runF R held f n → ∃ m, (m, p) ∈ held
  | 0, _, _, h => by cases h
  | f + 1, n, p, h => by
    rw [runF] at h
    cases hg : getP held n with
    | none => rw [hg] at h; cases h
    | some q =>
      rw [hg] at h
      rcases List.mem_cons.1 h with e | e
      · exact ⟨n, e ▸ getP_mem hg⟩
      · exact runF_mem e
theorem runF_all {R : Nat} {held : List (Nat × Pc)} : ∀ {f n i : Nat}, n < R → i < (runF R held f n).length → ∃ p, getP held ((n + i) % R) = some p
  | 0, _, _, _, h => by simp [runF] at h
  | f + 1, n, i, hn, h => by
    rw [runF] at h
    cases hg : getP held n with
    | none => rw [hg] at h; simp at h
    | some q =>
      rw [hg] at h
      cases i with
      | zero => exact ⟨q, by rw [Nat.add_zero, Nat.mod_eq_of_lt hn]; exact hg⟩
      | succ i =>
        obtain ⟨p, hp⟩ := runF_all (n := (n + 1) % R) (i := i) (Nat.mod_lt _ (by omega)) (by simpa using h)
        exact ⟨p, by rw [Nat.mod_add_mod] at hp; rw [← hp]; congr 2; omega⟩
theorem runP_len {w : World} {B b bm : Nat} {vl : Value} {s : JS} (h : Jo w B b bm vl s) : (runP s).length ≤ s.held.length := by
  have hR := rgN_two s.short
  have hf := h.few
  have h1 := fun j (hj : j ≤ (runP s).length) (hr : j ≤ rgN s.short) => ring_pig (R := rgN s.short) (next := s.next) (held := s.held) (j := j) hr (fun i hi => runF_all h.next (by show i < (runP s).length; omega))
  have h2 := h1 (min (runP s).length 200) (Nat.min_le_left _ _) (by omega)
  exact h1 _ (Nat.le_refl _) (by omega)
section
variable {w w' : World} {B b bm : Nat} {vl : Value} {s : JS}
/-- the slice of results grows: the joiner stays -/
theorem Jo.out (h : Jo w B b bm vl s) {B' n E : Nat} {vo : Value} {xs : List Value} (ho : w.ownsRow B' E 1 vo n xs) (h1 : 5 ≠ E) (h2 : 3 ≠ E) (h3 : E ≠ 71) (hb : ButOf (fun k => vo.ownBlock = some k) w w') : Jo w' B b bm vl s := by
  obtain ⟨D, hv, m1, m2, m3⟩ := h.map
  exact h.but hb (own_blk_ne ho h.blk h3) (ownsMap_own m1 ho) (fun k hk e => own_own_ne h.row ho h2 hk e) (fun hp k hk e => own_own_ne hp ho h1 hk e)
/-- a cell of another type is written: the joiner stays -/
theorem Jo.cell (h : Jo w B b bm vl s) {o T : Nat} {cs : Array Value} (ho : Blk w o cs T) (h1 : 5 ≠ T) (h2 : 3 ≠ T) (h3 : T ≠ 71) (hb : ButOf (fun k => k = o) w w') : Jo w' B b bm vl s := by
  obtain ⟨D, hv, m1, m2, m3⟩ := h.map
  exact h.but hb (fun e => blk_ne ho h.blk h3 e.symm) (fun e => ownsMap_blk m1 ho e.symm) (fun k hk e => own_blk_ne h.row ho h2 (e ▸ hk)) (fun hp k hk e => own_blk_ne hp ho h1 (e ▸ hk))
/-- the joiner's blocks are written: a row of rows stays -/
theorem Fr.jo {B' : Nat} {vo : Value} {L : List (List UInt8)} (hF : Fr w B' vo L) (h : Jo w B b bm vl s) (hb : ButOf (JFoot b bm vl) w w') : Fr w' B' vo L := by
  obtain ⟨xs, h1, h2⟩ := hF.ex
  obtain ⟨D, hv, m1, m2, m3⟩ := h.map
  have hn : ∀ {E n B'' : Nat} {v : Value} {ys : List Value}, w.ownsRow B'' E 1 v n ys → E ≠ 3 → E ≠ 71 → ∀ k, v.ownBlock = some k → ¬ JFoot b bm vl k := fun hv hE1 hE2 k hk e => by
    rcases e with e | e | e
    · exact own_blk_ne hv h.blk hE2 (e ▸ hk)
    · exact ownsMap_own m1 hv (e ▸ hk)
    · exact own_own_ne hv h.row hE1 hk e
  refine ⟨xs, own_but h1 hb (hn h1 (by decide) (by decide)), h2.but hb (fun x hx k hk => ?_)⟩
  obtain ⟨l', hl'⟩ := h2.mem x hx
  exact hn hl' (by decide) (by decide) k hk
/-- a cell is written that is none of its -/
theorem Fr.cell {B' o T : Nat} {vo : Value} {cs : Array Value} {L : List (List UInt8)} (hF : Fr w B' vo L) (ho : Blk w o cs T) (h1 : 5 ≠ T) (h2 : 27 ≠ T) (hb : ButOf (fun k => k = o) w w') : Fr w' B' vo L := by
  obtain ⟨xs, h3, h4⟩ := hF.ex
  refine ⟨xs, own_but h3 hb (fun k hk e => own_blk_ne h3 ho h2 (e ▸ hk)), h4.but hb (fun x hx k hk e => ?_)⟩
  obtain ⟨l', hl'⟩ := h4.mem x hx
  exact own_blk_ne hl' ho h1 (e ▸ hk)
/-- the joiner's blocks are written: a cell of another type stays -/
theorem Blk.jo {o T : Nat} {cs : Array Value} (ho : Blk w o cs T) (h : Jo w B b bm vl s) (h1 : T ≠ 71) (h2 : 3 ≠ T) (hb : ButOf (JFoot b bm vl) w w') : Blk w' o cs T := by
  obtain ⟨D, hv, m1, m2, m3⟩ := h.map
  exact ho.but hb (fun e => by
    rcases e with e | e | e
    · exact blk_ne ho h.blk h1 e
    · exact ownsMap_blk m1 ho e
    · exact own_blk_ne h.row ho h2 e)
end
theorem run_sub3 {P : Program} {t e : TypeId} {i : TypeInfo} (ht : P.underlying t = some (.slice e)) (hi : P.info? e = some i) (hs : i.size = 3) (g n c lo : Nat) (h : lo < n) (hc : n ≤ c) (w : World) :
    (Instr.slice t (.slice (some ⟨g, 0, none⟩) n c) (some (.int .i64 (lo : Int))) none none).run P w = .ok (.slice (some ⟨g, lo * 3, none⟩) (n - lo) (c - lo)) w := by
  have h1 : (0 : Int) ≤ (lo : Int) ∧ (lo : Int) ≤ (n : Int) := by omega
  have h2 : lo ≤ n := by omega
  have h3 : ¬ c = lo := by omega
  have h4 : ∀ (b o j : Nat), (⟨b, o, none⟩ : Addr).add j = ⟨b, o + j, none⟩ := fun b o j => by unfold Addr.add; split <;> simp_all
  simp [Instr.slice, run_underlying ht, Instr.sliceBounds, Instr.sliceBound, asIntOf, sizeOf, typeInfo, hi, hs, h2, h3, h4]
/-- where the results lie -/
def OutAt (w : World) (B0 o : Nat) (vo : Value) (L : List (List UInt8)) : Prop := Blk w o #[vo] 23 ∧ Fr w B0 vo L ∧ o < B0 ∧ B0 ≤ w.heap.size
/-- the joiner and the results, behind a call -/
structure Done (w w' : World) (B b bm : Nat) (vl : Value) (B0 o : Nat) (vo : Value) (s' : JS) (L' : List (List UInt8)) : Prop where
  ex : ∃ vo', Jo w' B b bm vl s' ∧ Blk w' o #[vo'] 23 ∧ Fr w' B0 vo' L' ∧ Next w vo vo'
  but : ButOf (fun k => JFoot b bm vl k ∨ k = o ∨ vo.ownBlock = some k) w w'
theorem Rn.below {w w' : World} {B : Nat} {v : Value} {ps : List Pc} (h : Rn w B v ps) (hb : Below w.heap.size w w') : Rn w' B v ps := by
  obtain ⟨vs, h1, h2⟩ := h.ex
  exact ⟨vs, own_below h1 hb, h2.but (K := fun _ => False) (ButOf.of_below hb) (fun _ _ _ _ h => h)⟩
theorem own_cap {w : World} {B B' : Nat} {g n c : Nat} {ps : List Pc} (h : ∃ vs, w.ownsRow B 75 3 (.slice (some ⟨g, 0, none⟩) n c) ps.length (pcCells vs ps) ∧ Each w B' vs (ps.map (·.b))) : ps.length ≤ c := by
  obtain ⟨vs, h1, _⟩ := h
  rcases h1.2 with ⟨e, _⟩ | ⟨g', cap, cur, e, _, _, h2, _⟩
  · cases e
  · cases e; exact h2
theorem grown_blk {wr w5 : World} {cs : Array Value} {T : TypeId} {row : Option Nat} (hr : ∀ k, row = some k → k < wr.heap.size) (hg : (wr.alloc (.cells cs T)).grownBy w5 row) : Blk w5 wr.heap.size cs T :=
  (Blk.new wr cs T).but (ButOf.of_grown hg (fun _ e => e)) (fun e => by have := hr _ e; omega)
section
variable {w w1 w2 : World} {B b bm B0 o : Nat} {vl vo : Value} {s : JS} {L : List (List UInt8)}
theorem Done.still (h : Jo w B b bm vl s) (hO : Blk w o #[vo] 23) (hF : Fr w B0 vo L) (hb : Below w.heap.size w w1) : Done w w1 B b bm vl B0 o vo s L :=
  ⟨⟨vo, h.below hb, hO.but (K := fun _ => False) (ButOf.of_below hb) (fun h => h), hF.below hb, Next.refl _ _⟩, ButOf.of_below hb⟩
theorem Done.pass {s' : JS} (h : Jo w B b bm vl s) (hO : Blk w o #[vo] 23) (hF : Fr w B0 vo L) (hb : Below w.heap.size w w1) (hJ : Jo w2 B b bm vl s') (hp : ButOf (fun k => k = b ∨ k = bm) w1 w2) : Done w w2 B b bm vl B0 o vo s' L := by
  have h1 := h.below hb
  have hp2 : ButOf (JFoot b bm vl) w1 w2 := hp.mono (fun i _ e => by rcases e with e | e <;> simp [JFoot, e])
  have hO1 := hO.but (K := fun _ => False) (ButOf.of_below hb) (fun h => h)
  have hF1 := hF.below hb
  exact ⟨⟨vo, hJ, hO1.jo h1 (by decide) (by decide) hp2, hF1.jo h1 hp2, Next.refl _ _⟩, (ButOf.of_below hb).after hp2 (fun i _ e => Or.inl e)⟩
/-- a datagram more, and numbers are passed by -/
theorem Done.out {w3 : World} {s' : JS} {xs : List Value} {v' q : Value} {l : List UInt8} (h : Jo w B b bm vl s) (hO : Blk w o #[vo] 23) (h1 : w.ownsRow B0 27 1 vo L.length xs) (h2 : Each w B0 xs L) (hB0 : B0 ≤ w.heap.size)
    (hb : Below w.heap.size w w1) (hq : w1.ownsRow w.heap.size 5 1 q l.length (l.map bv)) (ho : w2.ownsRow B0 27 1 v' (L.length + 1) (xs ++ [q])) (hg : w1.grownBy w2 vo.ownBlock) (hn : Next w1 vo v') (e3 : w3 = w2.setCell ⟨o, 0, none⟩ v') :
    Jo w3 B b bm vl s ∧ (∀ w4, Jo w4 B b bm vl s' → ButOf (fun k => k = b ∨ k = bm) w3 w4 → Done w w4 B b bm vl B0 o vo s' (L ++ [l])) := by
  subst e3
  have hJ1 := h.below hb
  have hO1 := hO.but (K := fun _ => False) (ButOf.of_below hb) (fun h => h)
  have hr1 := own_below h1 hb
  have he1 := h2.but (K := fun _ => False) (ButOf.of_below hb) (fun _ _ _ _ h => h)
  have hbg : ButOf (fun k => vo.ownBlock = some k) w1 w2 := ButOf.of_grown hg (fun _ e => e)
  have hJ2 := hJ1.out hr1 (by decide) (by decide) (by decide) hbg
  have hO2 := hO1.but hbg (own_blk_ne hr1 hO1 (by decide))
  have hF2 := Fr.snoc hr1 he1 (own_mono hq hB0) ho hg
  have hbs : ButOf (fun k => k = o) w2 (w2.setCell ⟨o, 0, none⟩ v') := (ButOf.refl _ w2).set _ (Or.inl rfl)
  have hJ3 := hJ2.cell hO2 (by decide) (by decide) (by decide) hbs
  have hO3 := hO2.set 0 v'
  have hF3 := hF2.cell hO2 (by decide) (by decide) hbs
  have hb3 : ButOf (fun k => JFoot b bm vl k ∨ k = o ∨ vo.ownBlock = some k) w (w2.setCell ⟨o, 0, none⟩ v') :=
    ((ButOf.of_below hb).after hbg (fun i _ e => Or.inr (Or.inr e))).after hbs (fun i _ e => Or.inr (Or.inl e))
  refine ⟨hJ3, fun w4 hJ4 hp => ?_⟩
  have hp2 : ButOf (JFoot b bm vl) (w2.setCell ⟨o, 0, none⟩ v') w4 := hp.mono (fun i _ e => by rcases e with e | e <;> simp [JFoot, e])
  exact ⟨⟨v', hJ4, hO3.jo hJ3 (by decide) (by decide) hp2, hF3.jo hJ3 hp2, hn.of_below hb.size⟩, hb3.after hp2 (fun i _ e => Or.inl e)⟩
end
set_option maxRecDepth 100000 in
set_option maxHeartbeats 2000000 in
theorem joined_any {w : World} {B b bm B0 o : Nat} {vl v vo : Value} {s : JS} {l : List Pc} {L : List (List UInt8)} (h : Jo w B b bm vl s) (hl : Rn w B v l) (hn : l.length ≤ 100) (hm : ∀ p ∈ l, p.b.length ≤ 100000) (hO : Blk w o #[vo] 23) (hF : Fr w B0 vo L) (hB0 : B0 ≤ w.heap.size) (hL : L.length ≤ 1000) :
    Calls Try.prog 39 #[.pointer (some ⟨b, 0, none⟩), v, .pointer (some ⟨o, 0, none⟩)] w fun e w' => e = .returned (.bool (joinP s.most l).isSome) ∧ Done w w' B b bm vl B0 o vo (joinS s (joinP s.most l)) (L ++ joinD (joinP s.most l)) := by
  cases l with
  | nil =>
    obtain ⟨vs, h1, _⟩ := hl.ex
    obtain ⟨a', c', rfl⟩ : ∃ a' c', v = .slice a' 0 c' := by
      rcases h1.2 with ⟨rfl, _⟩ | ⟨g, cap, cur, rfl, _⟩
      · exact ⟨_, _, rfl⟩
      · exact ⟨_, _, rfl⟩
    go_enter Try.func39, Try.ntmps39
    go_wp2_with fail
    go_ret
    refine ⟨rfl, ⟨vo, h, hO, ?_, Next.refl _ _⟩, ButOf.refl _ _⟩
    simpa [joinP, joinD] using hF
  | cons p r =>
    obtain ⟨g, c, x, rfl, hg, c0, c1, c2, hx⟩ := hl.at_ (k := 0) (p := p) rfl
    simp only [Nat.zero_mul, Nat.zero_add] at c0 c1 c2
    cases hp : p.first
    · rw [joinP_no hp]
      rw [hp] at c0
      go_enter Try.func39, Try.ntmps39
      go_wp2_with fail
      go_ret
      refine ⟨rfl, ⟨vo, h, hO, ?_, Next.refl _ _⟩, ButOf.refl _ _⟩
      simpa [joinD] using hF
    · rw [hp] at c0
      have hJP := joinP_cons (most := s.most) (r := r) hp
      replace hJP := Lib.hid hJP
      have hlen : (p :: r).length ≤ 100 := hn
      have hpos : 0 < (p :: r).length := by simp
      generalize p :: r = ps at *
      have hposI : ((ps.length : Int) == 0) = false := by rw [beq_eq_false_iff_ne]; omega
      clear c1 c2 hx hp
      obtain ⟨i0, hi, hz0, hz1, hz2⟩ := info_parts Try.info5
      have hi' := Lib.hid hi; clear hi
      obtain ⟨i1, hi, hy0, hy1, hy2⟩ := info_parts info_rows
      have hj' := Lib.hid hi; clear hi
      obtain ⟨i2, hi, hx0, hx1, hx2⟩ := info_parts info_part
      have hk' := Lib.hid hi; clear hi
      go_enter Try.func39, Try.ntmps39
      go_wp2_with fail
      go_loopw [7, 22] (fun v7 v22 wr => ∃ (k : Nat) (acc : List UInt8), k ≤ ps.length ∧ v22 = .int .i64 k ∧ wr.ownsRow w.heap.size 5 1 v7 acc.length (acc.map bv) ∧ Below w.heap.size w wr ∧ Hid (joinF s.most 0 [] ps = joinF s.most k acc (ps.drop k)) ∧ acc.length ≤ k * 100000) (fun _ vi _ => ps.length - (intOf vi).toNat)
      case atStart => exact ⟨0, [], Nat.zero_le _, rfl, World.ownsRow_nil _ _ _ _, Below.refl _ _, Lib.hid (by simp), Nat.le_refl _⟩
      case round =>
        obtain ⟨k, acc, hk, rfl, ho, hb, hE, hac⟩ := hrel
        by_cases hlt : k < ps.length
        · have hltI : (k : Int) < (ps.length : Int) := by omega
          have hq : ps[k]? = some (ps[k]'hlt) := List.getElem?_eq_getElem hlt
          have hcons : ps.drop k = ps[k]'hlt :: ps.drop (k + 1) := List.drop_eq_getElem_cons hlt
          have hqm : (ps[k]'hlt).b.length ≤ 100000 := hm _ (List.getElem_mem _)
          generalize ps[k]'hlt = q at hq hcons hqm
          obtain ⟨g', c', x, ev, hg', d0, d1, d2, hx⟩ := hl.at_ hq
          cases ev
          obtain ⟨xa, xc, rfl⟩ := own_slice hx
          have hxb := own_below hx hb
          obtain ⟨_, _, ev, hBq⟩ := Bts.of_own hxb (by omega)
          cases ev
          clear hxb hx
          have d0 := (hb.cell (p := ⟨g, k * 3, none⟩) hg).trans d0
          have d1 := (hb.cell (p := ⟨g, k * 3 + 1, none⟩) hg).trans d1
          have d2 := (hb.cell (p := ⟨g, k * 3 + 2, none⟩) hg).trans d2
          have hE2 := hE.out
          rw [hcons, joinF, ← hcons] at hE2
          have hJb := h.below hb
          have hkb : k ≤ 100000000 := by omega
          have hcl : ps.length ≤ c := own_cap hl.ex
          by_cases hA : 0 < k ∧ q.first = true
          · rw [if_pos hA] at hE2
            rw [hA.2] at d0
            have hkI : (0 : Int) < (k : Int) := by omega
            have hsl := fun W => run_sub3 (P := Try.prog) Try.underlying85 hk'.out hx1 g ps.length c k hlt hcl W
            have hRn := fun cs => (hl.below hb).below (below_alloc (Below.refl wr.heap.size wr) (.cells cs 75) (Nat.le_refl _))
            have hbW := fun cs => below_alloc hb (.cells cs 75) (Nat.le_refl _)
            have hend := fun W hW => ended_any (w := W) (B := B) (g := g) (c := c) k hW rfl hlt (by omega)
            cases hany : (ps.drop k).any (·.last)
            · rw [hany] at hE2
              simp only [hany] at hend
              replace hE2 := Lib.hid (hJP.out.trans hE2)
              replace hend := Lib.hid hend
              clear hE hJP hany
              go_wp2_with (go_at_call 47; refine (hend.out _ (hRn _)).mono ?_; rintro e w2 ⟨rfl, hb2⟩)
              go_ret
              rw [hE2.out]
              have hb3 := (hbW _).trans (hb2.mono (hbW _).size)
              refine ⟨rfl, ?_⟩
              simpa [joinD, joinS] using Done.still h hO hF hb3
            · rw [hany] at hE2
              simp only [hany] at hend
              replace hE2 := Lib.hid (hJP.out.trans hE2)
              replace hend := Lib.hid hend
              clear hE hJP hany
              go_wp2_with (first | (go_at_call 47; refine (hend.out _ (hRn _)).mono ?_; rintro e w2 ⟨rfl, hb2⟩) | (go_at_call 40; have hb3 := (hbW _).trans (hb2.mono (hbW _).size); refine (pass_any k (h.below hb3) hkb).mono ?_; rintro e w4 ⟨rfl, hJ4, hp4⟩))
              go_ret
              rw [hE2.out]
              refine ⟨rfl, ?_⟩
              simpa [joinD, joinS] using Done.pass h hO hF hb3 hJ4 hp4
          · rw [if_neg hA] at hE2
            replace hE2 := Lib.hid hE2
            by_cases hk0 : k = 0
            · have hkI : ¬ ((0 : Int) < (k : Int)) := by omega
              replace hk0 := Lib.hid hk0
              have hm1 : acc.length + q.b.length ≤ maxLen := by unfold maxLen; omega
              have hm2 : (acc.length + q.b.length) * 1 ≤ 140737488355328 := by omega
              have hsz := hb.size
              have hW := fun cs => below_alloc (Below.refl wr.heap.size wr) (.cells cs 75) (Nat.le_refl _)
              have hsW : ∀ o, w.heap.size ≤ (wr.alloc o).heap.size := fun o => by rw [alloc_size]; omega
              go_wp2_with (at_builtin; go_must (refine wp_appB_at rfl _ _ 27 rfl w.heap.size 5 i0 _ 1 Try.underlying27 hi'.out hz0 hz1 hz2 rfl _ _ _ rfl (own_below ho (hW _)) xa q.b.length xc q.b rfl (hBq.below (hW _) (Nat.le_refl _)) hm1 hm2 (hsW _) ?_))
              intro v5 w5 ho5 hg5 _
              have hb5 := below_grown (hb.trans ((hW _).mono hb.size)) (own_below ho (hW _)) hg5 (hsW _)
              have ho6 : w5.ownsRow w.heap.size 5 1 v5 (acc ++ q.b).length ((acc ++ q.b).map bv) := own_congr ho5 (by simp) (by simp)
              have hac2 : (acc ++ q.b).length ≤ (k + 1) * 100000 := by simp; omega
              obtain ⟨a5, c5, rfl⟩ := own_slice ho6
              have kq := grown_blk (fun k e => (ho.lt k e).2) hg5
              have e1 := kq.cell 1
              simp only [List.getElem?_toArray, List.getElem?_cons_succ, List.getElem?_cons_zero] at e1
              clear d0 d1 d2 kq ho5 hg5 ho
              cases hlast : q.last
              · rw [hlast] at hE2 e1
                have hms : ps.length - (intOf (.int .i64 ((k : Int) + 1))).toNat < ps.length - (intOf (.int .i64 (k : Int))).toNat := by simp [intOf]; omega
                replace hms := Lib.hid hms
                go_wp2_with fail
                go_roundw
                case rel => exact ⟨k + 1, _, by omega, rfl, ho6, hb5, Lib.hid (by rw [hE2.out]; simp), hac2⟩
                case measure => exact hms.out
              · rw [hlast] at hE2 e1
                replace hE2 := Lib.hid (hJP.out.trans hE2.out)
                have g1 := (h.below hb5).c1
                have hpass := fun W (hW : Jo W B b bm vl s) => pass_any (k + 1) hW (by omega)
                have hdl : (acc ++ q.b).length ≤ 100000000 := by omega
                clear hE hJP hac hm1 hm2
                generalize acc ++ q.b = d at *
                by_cases hle : d.length ≤ s.most
                · have hleI : (d.length : Int) ≤ (s.most : Int) := by omega
                  rw [if_pos hle] at hE2
                  replace hE2 := Lib.hid hE2.out
                  obtain ⟨xs, hr, he⟩ := hF.ex
                  obtain ⟨ao, co, rfl⟩ := own_slice hr
                  have hO5 := hO.but (K := fun _ => False) (ButOf.of_below hb5) (fun h => h)
                  have g0 := hO5.cell 0
                  simp only [List.getElem?_toArray, List.getElem?_cons_zero] at g0
                  have hr5 := own_below hr hb5
                  have m1 : L.length + 1 ≤ maxLen := by unfold maxLen; omega
                  have m2 : (L.length + 1) * 24 ≤ 140737488355328 := by omega
                  have m3 : B0 ≤ w5.heap.size := Nat.le_trans hB0 hb5.size
                  go_wp2_with (at_builtin; go_must (refine wp_app1_at rfl _ _ 23 rfl B0 27 i1 _ 24 Try.underlying23 hj'.out hy0 hy1 hy2 rfl _ _ _ rfl hr5 (.slice a5 d.length c5) rfl rfl m1 m2 m3 ?_))
                  intro v7 w7 ho7 hg7 hn7
                  obtain ⟨a7, c7, rfl⟩ := own_slice ho7
                  have hO7 := hO5.but (ButOf.of_grown hg7 (fun _ e => e)) (own_blk_ne hr5 hO5 (by decide))
                  have f7 := hO7.free 0 none
                  have g7 := hO7.cell 0
                  simp only [List.getElem?_toArray, List.getElem?_cons_zero] at g7
                  obtain ⟨hJ8, hD⟩ := Done.out (s' := passP s (k + 1)) h hO hr he hB0 hb5 ho6 ho7 hg7 hn7 rfl
                  clear hO7 ho7 hg7 hn7 hO5 hr5 he hr hF hO ho6 e1 g0
                  go_wp2_with (go_at_call 40; refine (hpass _ hJ8).mono ?_; rintro e w4 ⟨rfl, hJ4, hp4⟩)
                  go_ret
                  rw [hE2.out]
                  refine ⟨rfl, ?_⟩
                  simpa [joinD, joinS] using hD _ hJ4 hp4
                · have hleI : ¬ ((d.length : Int) ≤ (s.most : Int)) := by omega
                  rw [if_neg hle] at hE2
                  replace hE2 := Lib.hid hE2.out
                  go_wp2_with (go_at_call 40; refine (hpass _ (h.below hb5)).mono ?_; rintro e w4 ⟨rfl, hJ4, hp4⟩)
                  go_ret
                  rw [hE2.out]
                  refine ⟨rfl, ?_⟩
                  simpa [joinD, joinS] using Done.pass h hO hF hb5 hJ4 hp4
            · have hkI : (0 : Int) < (k : Int) := by omega
              have hf0 : q.first = false := by cases hc : q.first with | false => rfl | true => exact absurd ⟨by omega, hc⟩ hA
              rw [hf0] at d0
              have hm1 : acc.length + q.b.length ≤ maxLen := by unfold maxLen; omega
              have hm2 : (acc.length + q.b.length) * 1 ≤ 140737488355328 := by omega
              have hsz := hb.size
              have hW := fun cs => below_alloc (Below.refl wr.heap.size wr) (.cells cs 75) (Nat.le_refl _)
              have hsW : ∀ o, w.heap.size ≤ (wr.alloc o).heap.size := fun o => by rw [alloc_size]; omega
              go_wp2_with (at_builtin; go_must (refine wp_appB_at rfl _ _ 27 rfl w.heap.size 5 i0 _ 1 Try.underlying27 hi'.out hz0 hz1 hz2 rfl _ _ _ rfl (own_below ho (hW _)) xa q.b.length xc q.b rfl (hBq.below (hW _) (Nat.le_refl _)) hm1 hm2 (hsW _) ?_))
              intro v5 w5 ho5 hg5 _
              have hb5 := below_grown (hb.trans ((hW _).mono hb.size)) (own_below ho (hW _)) hg5 (hsW _)
              have ho6 : w5.ownsRow w.heap.size 5 1 v5 (acc ++ q.b).length ((acc ++ q.b).map bv) := own_congr ho5 (by simp) (by simp)
              have hac2 : (acc ++ q.b).length ≤ (k + 1) * 100000 := by simp; omega
              obtain ⟨a5, c5, rfl⟩ := own_slice ho6
              have kq := grown_blk (fun k e => (ho.lt k e).2) hg5
              have e1 := kq.cell 1
              simp only [List.getElem?_toArray, List.getElem?_cons_succ, List.getElem?_cons_zero] at e1
              clear d0 d1 d2 kq ho5 hg5 ho
              cases hlast : q.last
              · rw [hlast] at hE2 e1
                have hms : ps.length - (intOf (.int .i64 ((k : Int) + 1))).toNat < ps.length - (intOf (.int .i64 (k : Int))).toNat := by simp [intOf]; omega
                replace hms := Lib.hid hms
                go_wp2_with fail
                go_roundw
                case rel => exact ⟨k + 1, _, by omega, rfl, ho6, hb5, Lib.hid (by rw [hE2.out]; simp), hac2⟩
                case measure => exact hms.out
              · rw [hlast] at hE2 e1
                replace hE2 := Lib.hid (hJP.out.trans hE2.out)
                have g1 := (h.below hb5).c1
                have hpass := fun W (hW : Jo W B b bm vl s) => pass_any (k + 1) hW (by omega)
                have hdl : (acc ++ q.b).length ≤ 100000000 := by omega
                clear hE hJP hac hm1 hm2
                generalize acc ++ q.b = d at *
                by_cases hle : d.length ≤ s.most
                · have hleI : (d.length : Int) ≤ (s.most : Int) := by omega
                  rw [if_pos hle] at hE2
                  replace hE2 := Lib.hid hE2.out
                  obtain ⟨xs, hr, he⟩ := hF.ex
                  obtain ⟨ao, co, rfl⟩ := own_slice hr
                  have hO5 := hO.but (K := fun _ => False) (ButOf.of_below hb5) (fun h => h)
                  have g0 := hO5.cell 0
                  simp only [List.getElem?_toArray, List.getElem?_cons_zero] at g0
                  have hr5 := own_below hr hb5
                  have m1 : L.length + 1 ≤ maxLen := by unfold maxLen; omega
                  have m2 : (L.length + 1) * 24 ≤ 140737488355328 := by omega
                  have m3 : B0 ≤ w5.heap.size := Nat.le_trans hB0 hb5.size
                  go_wp2_with (at_builtin; go_must (refine wp_app1_at rfl _ _ 23 rfl B0 27 i1 _ 24 Try.underlying23 hj'.out hy0 hy1 hy2 rfl _ _ _ rfl hr5 (.slice a5 d.length c5) rfl rfl m1 m2 m3 ?_))
                  intro v7 w7 ho7 hg7 hn7
                  obtain ⟨a7, c7, rfl⟩ := own_slice ho7
                  have hO7 := hO5.but (ButOf.of_grown hg7 (fun _ e => e)) (own_blk_ne hr5 hO5 (by decide))
                  have f7 := hO7.free 0 none
                  have g7 := hO7.cell 0
                  simp only [List.getElem?_toArray, List.getElem?_cons_zero] at g7
                  obtain ⟨hJ8, hD⟩ := Done.out (s' := passP s (k + 1)) h hO hr he hB0 hb5 ho6 ho7 hg7 hn7 rfl
                  clear hO7 ho7 hg7 hn7 hO5 hr5 he hr hF hO ho6 e1 g0
                  go_wp2_with (go_at_call 40; refine (hpass _ hJ8).mono ?_; rintro e w4 ⟨rfl, hJ4, hp4⟩)
                  go_ret
                  rw [hE2.out]
                  refine ⟨rfl, ?_⟩
                  simpa [joinD, joinS] using hD _ hJ4 hp4
                · have hleI : ¬ ((d.length : Int) ≤ (s.most : Int)) := by omega
                  rw [if_neg hle] at hE2
                  replace hE2 := Lib.hid hE2.out
                  go_wp2_with (go_at_call 40; refine (hpass _ (h.below hb5)).mono ?_; rintro e w4 ⟨rfl, hJ4, hp4⟩)
                  go_ret
                  rw [hE2.out]
                  refine ⟨rfl, ?_⟩
                  simpa [joinD, joinS] using Done.pass h hO hF hb5 hJ4 hp4
        · obtain rfl : k = ps.length := by omega
          go_wp2_with fail
          go_ret
          have e := hE.out
          rw [List.drop_length, joinF] at e
          rw [hJP.out, e]
          refine ⟨rfl, ?_⟩
          simpa [joinD, joinS] using Done.still h hO hF hb
end Go.Proofs.Ytglmlhbchfgliaa
