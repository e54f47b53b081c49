/-
  The reference's joiner: where it lies; on, ahead, find, gone. No conditions.
-/
import Derived.Test.YtglmlhbchfgliaaMuPlain
namespace Go.Proofs.Ytglmlhbchfgliaa
open Go.RowKit Go.Maps
/-- the cells of fragments that are held -/
def prCells : List Value → List (Nat × Pc) → List Value
  | v :: vs, p :: ps => .int .i64 (p.1 : Nat) :: .bool p.2.first :: .bool p.2.last :: v :: prCells vs ps
  | _, _ => []
theorem prCells_snoc : ∀ {vs : List Value} {ps : List (Nat × Pc)} {v : Value} {p : Nat × Pc}, vs.length = ps.length → prCells (vs ++ [v]) (ps ++ [p]) = prCells vs ps ++ [.int .i64 (p.1 : Nat), .bool p.2.first, .bool p.2.last, v]
  | [], [], _, _, _ => rfl
  | _ :: _, _ :: _, _, _, h => by simp [prCells, prCells_snoc (by simpa using h)]
  | [], _ :: _, _, _, h => by simp at h
  | _ :: _, [], _, _, h => by simp at h
theorem prCells_at : ∀ {vs : List Value} {ps : List (Nat × Pc)} {k : Nat} {p : Nat × Pc} {v : Value}, ps[k]? = some p → vs[k]? = some v →
    (prCells vs ps)[k * 4]? = some (.int .i64 (p.1 : Nat)) ∧ (prCells vs ps)[k * 4 + 1]? = some (.bool p.2.first) ∧ (prCells vs ps)[k * 4 + 2]? = some (.bool p.2.last) ∧ (prCells vs ps)[k * 4 + 3]? = some v
  | x :: _, q :: _, 0, p, v, h1, h2 => by
    simp only [List.getElem?_cons_zero, Option.some.injEq] at h1 h2
    subst h1; subst h2
    exact ⟨rfl, rfl, rfl, rfl⟩
  | x :: xs, q :: qs, k + 1, p, v, h1, h2 => by
    have := prCells_at (vs := xs) (ps := qs) (k := k) (p := p) (v := v) (by simpa using h1) (by simpa using h2)
    have e : (k + 1) * 4 = k * 4 + 4 := by omega
    rw [e]
    exact this
  | [], _, _, _, _, _, h2 => by simp at h2
  | _ :: _, [], _, _, _, h1, _ => by simp at h1
/-- the reference's joiner s lies at b, its rows at vl and vh -/
structure RJ (w : World) (B b : Nat) (vl vh : Value) (s : JS) : Prop where
  blk : Blk w b #[.bool s.short, .int .i64 (s.most : Nat), .int .i64 (s.next : Nat), vl, vh, .int .i64 (wrap64 (s.lost : Nat))] 63
  row : w.ownsRow B 3 1 vl s.last.length (s.last.map zv)
  held : ∃ vs, w.ownsRow B 82 4 vh s.held.length (prCells vs s.held) ∧ Each w B vs (s.held.map (·.2.b))
  base : B ≤ b
/-- the blocks that its calls may write -/
def RFoot (b : Nat) (vl vh : Value) (k : Nat) : Prop := k = b ∨ vl.ownBlock = some k ∨ vh.ownBlock = some k
section
variable {w w' : World} {B b : Nat} {vl vh : Value} {s : JS}
theorem RJ.c0 (h : RJ w B b vl vh s) : w.cell? ⟨b, 0, none⟩ = some (.bool s.short) := by rw [h.blk.cell]; rfl
theorem RJ.c1 (h : RJ w B b vl vh s) : w.cell? ⟨b, 1, none⟩ = some (.int .i64 (s.most : Nat)) := by rw [h.blk.cell]; rfl
theorem RJ.c2 (h : RJ w B b vl vh s) : w.cell? ⟨b, 2, none⟩ = some (.int .i64 (s.next : Nat)) := by rw [h.blk.cell]; rfl
theorem RJ.c3 (h : RJ w B b vl vh s) : w.cell? ⟨b, 3, none⟩ = some vl := by rw [h.blk.cell]; rfl
theorem RJ.c4 (h : RJ w B b vl vh s) : w.cell? ⟨b, 4, none⟩ = some vh := by rw [h.blk.cell]; rfl
theorem RJ.c5 (h : RJ w B b vl vh s) : w.cell? ⟨b, 5, none⟩ = some (.int .i64 (wrap64 (s.lost : Nat))) := by rw [h.blk.cell]; rfl
theorem RJ.lt (h : RJ w B b vl vh s) : b < w.heap.size := h.blk.lt
theorem own_slice4 {E n m : Nat} {v : Value} {xs : List Value} (h : w.ownsRow B E m v n xs) : ∃ a c, v = .slice a n c := by
  rcases h.2 with ⟨rfl, h0⟩ | ⟨g, cap, cur, rfl, _⟩
  · exact ⟨_, _, by rw [h0]⟩
  · exact ⟨_, _, rfl⟩
theorem RJ.slice (h : RJ w B b vl vh s) : ∃ a c, vh = .slice a s.held.length c := by
  obtain ⟨vs, h1, _⟩ := h.held
  exact own_slice4 h1
theorem RJ.but {K : Nat → Prop} (h : RJ w B b vl vh s) (hb : ButOf K w w') (h1 : ¬ K b) (h2 : ∀ k, vl.ownBlock = some k → ¬ K k) (h3 : ∀ k, vh.ownBlock = some k → ¬ K k) (h4 : ∀ {v : Value} {l : List UInt8}, w.ownsRow B 5 1 v l.length (l.map bv) → ∀ k, v.ownBlock = some k → ¬ K k) : RJ w' B b vl vh s := by
  obtain ⟨vs, e1, e2⟩ := h.held
  exact ⟨h.blk.but hb h1, own_but h.row hb h2, ⟨vs, own_but e1 hb h3, e2.but hb (fun x hx k hk => by obtain ⟨l', hl'⟩ := e2.mem x hx; exact h4 hl' k hk)⟩, h.base⟩
theorem RJ.below (h : RJ w B b vl vh s) (hb : Below w.heap.size w w') : RJ w' B b vl vh s :=
  h.but (K := fun _ => False) (ButOf.of_below hb) (fun h => h) (fun _ _ h => h) (fun _ _ h => h) (fun _ _ _ h => h)
/-- one fragment's cells -/
theorem RJ.at_ (h : RJ w B b vl vh s) {k n : Nat} {p : Pc} (hp : s.held[k]? = some (n, p)) : ∃ g c x, vh = .slice (some ⟨g, 0, none⟩) s.held.length c ∧ g < w.heap.size ∧
    w.cell? ⟨g, k * 4, none⟩ = some (.int .i64 (n : Nat)) ∧ w.cell? ⟨g, k * 4 + 1, none⟩ = some (.bool p.first) ∧ w.cell? ⟨g, k * 4 + 2, none⟩ = some (.bool p.last) ∧ w.cell? ⟨g, k * 4 + 3, none⟩ = some x ∧ w.ownsRow B 5 1 x p.b.length (p.b.map bv) := by
  obtain ⟨vs, h1, h2⟩ := h.held
  have hk : k < s.held.length := (List.getElem?_eq_some_iff.1 hp).1
  obtain ⟨x, hx1, hx2⟩ := h2.get (i := k) (by simpa using hk)
  have hb : (s.held.map (·.2.b)).getD k [] = p.b := by simp [List.getD_eq_getElem?_getD, hp]
  rw [hb] at hx2
  obtain ⟨c0, c1, c2, c3⟩ := prCells_at hp hx1
  have hx := h1
  rcases h1.2 with ⟨rfl, h0⟩ | ⟨g, cap, cur, rfl, _, hg, _⟩
  · omega
  · refine ⟨g, cap, x, rfl, (Array.getElem?_eq_some_iff.1 hg).1, ?_, ?_, ?_, ?_, hx2⟩
    · exact (World.ownsRow.cellAt hx (k * 4) (by omega)).trans c0
    · exact (World.ownsRow.cellAt hx (k * 4 + 1) (by omega)).trans c1
    · exact (World.ownsRow.cellAt hx (k * 4 + 2) (by omega)).trans c2
    · exact (World.ownsRow.cellAt hx (k * 4 + 3) (by omega)).trans c3
end
theorem ron_any {w : World} {B b : Nat} {vl vh : Value} {s : JS} (n m : Nat) (h : RJ w B b vl vh s) (hn : n < rgN s.short) (hm : m ≤ 100000000) :
    Calls Try.prog 44 #[.pointer (some ⟨b, 0, none⟩), .int .i64 (n : Nat), .int .i64 (m : Nat)] w fun e w' => e = .returned (.int .i64 (((n + m) % rgN s.short : Nat) : Int)) ∧ w = w' := by
  have g0 := h.c0
  have hR := rgN_two s.short
  have hnI : (n : Int) < 16777216 := by omega
  have hmI : (m : Int) ≤ 100000000 := by omega
  have hrem : ((n : Int) + (m : Int)).tmod (rgN s.short : Int) = (((n + m) % rgN s.short : Nat) : Int) := by rw [Int.tmod_eq_emod_of_nonneg (by omega), show (n : Int) + (m : Int) = ((n + m : Nat) : Int) by omega]; exact (Int.natCast_emod _ _).symm
  have hRz : ((rgN s.short : Int) == 0) = false := by rw [beq_eq_false_iff_ne]; omega
  have hR0 : ¬ rgN s.short = 0 := by omega
  generalize hq : (n + m) % rgN s.short = q at hrem
  replace hq := Lib.hid hq
  have hring := Lib.hid (rring_any s.short)
  go_enter Try.func44, Try.ntmps44
  go_wp2_with (go_at_call 31; refine (hring.out _).mono ?_; rintro e w' ⟨rfl, rfl⟩)
  go_ret
  exact ⟨rfl, rfl⟩
set_option maxHeartbeats 1000000 in
theorem rahead_any {w : World} {B b : Nat} {vl vh : Value} {s : JS} (n of : Nat) (h : RJ w B b vl vh s) (hn : n < rgN s.short) (ho : of < rgN s.short) :
    Calls Try.prog 34 #[.pointer (some ⟨b, 0, none⟩), .int .i64 (n : Nat), .int .i64 (of : Nat)] w fun e w' => e = .returned (.int .i64 (aheadI (rgN s.short) of n)) ∧ w = w' := by
  have g0 := h.c0
  have hR := rgN_two s.short
  have hring := Lib.hid (rring_any s.short)
  generalize rgN s.short = R at *
  have hRb : R ≤ 16777216 := by omega
  have hRp : 0 < R := by omega
  have hsub : (n : Int) - (of : Int) + (R : Int) = ((n + R - of : Nat) : Int) := by omega
  have hrem : ((n + R - of : Nat) : Int).tmod (R : Int) = (((n + R - of) % R : Nat) : Int) := by rw [Int.tmod_eq_emod_of_nonneg (by omega)]; omega
  have hdv : (R : Int).tdiv 2 = ((R / 2 : Nat) : Int) := by rw [Int.tdiv_eq_ediv_of_nonneg (by omega)]; omega
  have hRz : ((R : Int) == 0) = false := by rw [beq_eq_false_iff_ne]; omega
  have hlt := Nat.mod_lt (n + R - of) hRp
  have hah : aheadI R of n = if R / 2 ≤ (n + R - of) % R then -1 else (((n + R - of) % R : Nat) : Int) := rfl
  replace hah := Lib.hid hah
  have hyb : R / 2 ≤ 16777216 := by omega
  clear hR h
  generalize (n + R - of) % R = d at *
  generalize n + R - of = x at *
  by_cases hd : R / 2 ≤ d
  · generalize R / 2 = y at *
    go_enter Try.func34, Try.ntmps34
    go_wp2_with (go_at_call 31; refine (hring.out _).mono ?_; rintro e w' ⟨rfl, rfl⟩)
    go_ret
    exact ⟨ret_int (by rw [hah.out, if_pos hd]), rfl⟩
  · generalize R / 2 = y at *
    have hdI : ¬ ((y : Int) ≤ (d : Int)) := by omega
    go_enter Try.func34, Try.ntmps34
    go_wp2_with (go_at_call 31; refine (hring.out _).mono ?_; rintro e w' ⟨rfl, rfl⟩)
    go_ret
    exact ⟨ret_int (by rw [hah.out, if_neg hd]), rfl⟩
/-- where a number is held -/
def FindR (held : List (Nat × Pc)) (n : Nat) (i : Int) : Prop := (i = -1 ∧ getP held n = none) ∨ ∃ (k : Nat) (p : Pc), i = k ∧ held[k]? = some (n, p) ∧ ∀ q ∈ held.take k, q.1 ≠ n
theorem find_hit {held : List (Nat × Pc)} {n k : Nat} {p : Pc} (h : held[k]? = some (n, p)) (hn : ∀ q ∈ held.take k, q.1 ≠ n) : getP held n = some p := by
  obtain ⟨hk, he⟩ := List.getElem?_eq_some_iff.1 h
  unfold getP
  have : held.find? (fun p => decide (p.1 = n)) = some (n, p) := by
    rw [← List.take_append_drop k held, List.drop_eq_getElem_cons hk, he, List.find?_append, List.find?_eq_none.2 (fun q hq => by simpa using hn q hq)]
    simp
  rw [this]; rfl
theorem take_more {α : Type} {l : List α} {k : Nat} {p : α} (h : l[k]? = some p) : l.take (k + 1) = l.take k ++ [p] := by
  obtain ⟨hk, he⟩ := List.getElem?_eq_some_iff.1 h
  rw [List.take_succ_eq_append_getElem hk, he]
set_option maxRecDepth 100000 in
set_option maxHeartbeats 1000000 in
theorem rfind_any {w : World} {B b : Nat} {vl vh : Value} {s : JS} (n : Nat) (h : RJ w B b vl vh s) (hf : s.held.length ≤ 1000) :
    Calls Try.prog 35 #[.pointer (some ⟨b, 0, none⟩), .int .i64 (n : Nat)] w fun e w' => ∃ i, e = .returned (.int .i64 i) ∧ FindR s.held n i ∧ w = w' := by
  have g4 := h.c4
  obtain ⟨ah, ch, rfl⟩ := h.slice
  have hfI : (s.held.length : Int) ≤ 1000 := by omega
  go_enter Try.func35, Try.ntmps35
  go_wp2_with fail
  go_loopw [5] (fun vi wr => ∃ k : Nat, k ≤ s.held.length ∧ vi = .int .i64 k ∧ Hid (∀ q ∈ s.held.take k, q.1 ≠ n) ∧ w = wr) (fun vi _ => s.held.length - (intOf vi).toNat)
  case atStart => exact ⟨0, Nat.zero_le _, rfl, Lib.hid (fun q hq => by simp at hq), rfl⟩
  case round =>
    obtain ⟨k, hk, rfl, hne, rfl⟩ := hrel
    by_cases hlt : k < s.held.length
    · have hltI : (k : Int) < (s.held.length : Int) := by omega
      obtain ⟨⟨m, p⟩, hq⟩ : ∃ q, s.held[k]? = some q := ⟨_, List.getElem?_eq_getElem hlt⟩
      obtain ⟨g, c, x, e, hg, c0, _, _, _, _⟩ := h.at_ hq
      cases e
      have hms : s.held.length - (intOf (.int .i64 ((k : Int) + 1))).toNat < s.held.length - (intOf (.int .i64 (k : Int))).toNat := by simp [intOf]; omega
      replace hms := Lib.hid hms
      by_cases hm : m = n
      · subst hm
        have hR : FindR s.held m (k : Int) := Or.inr ⟨k, p, rfl, hq, hne.out⟩
        have heq : ((m : Int) == (m : Int)) = true := by simp
        go_wp2_with fail
        go_ret
        exact ⟨_, rfl, hR, rfl⟩
      · have heq : ((m : Int) == (n : Int)) = false := by rw [beq_eq_false_iff_ne]; omega
        have hne2 : ∀ q ∈ s.held.take (k + 1), q.1 ≠ n := by
          rw [take_more hq]
          intro q hq2
          rcases List.mem_append.1 hq2 with e | e
          · exact hne.out q e
          · rw [List.mem_singleton] at e; subst e; exact hm
        replace hne2 := Lib.hid hne2
        replace hm := Lib.hid hm
        go_wp2_with fail
        go_roundw
        case rel => exact ⟨k + 1, by omega, rfl, hne2, trivial⟩
        case measure => exact hms.out
    · have hke : k = s.held.length := by omega
      have hR : FindR s.held n (-1) := Or.inl ⟨rfl, getP_none.2 (fun hm => by
        obtain ⟨q, hq, e⟩ := List.mem_map.1 hm
        have := hne.out
        rw [hke, List.take_length] at this
        exact this q hq e)⟩
      replace hke := Lib.hid hke
      have hltI : (s.held.length : Int) ≤ (k : Int) := by omega
      clear hlt
      go_wp2_with fail
      go_ret
      exact ⟨_, rfl, hR, rfl⟩
theorem rfind_no {w : World} {B b : Nat} {vl vh : Value} {s : JS} (n : Nat) (h : RJ w B b vl vh s) (hf : s.held.length ≤ 1000) (hg : getP s.held n = none) :
    Calls Try.prog 35 #[.pointer (some ⟨b, 0, none⟩), .int .i64 (n : Nat)] w fun e w' => e = .returned (.int .i64 (-1)) ∧ w = w' := by
  refine (rfind_any n h hf).mono ?_
  rintro e w' ⟨i, rfl, hF, rfl⟩
  rcases hF with ⟨rfl, _⟩ | ⟨k, p, _, h1, h2⟩
  · exact ⟨rfl, rfl⟩
  · rw [find_hit h1 h2] at hg; cases hg
theorem rfind_yes {w : World} {B b : Nat} {vl vh : Value} {s : JS} {n k : Nat} {p : Pc} (h : RJ w B b vl vh s) (hf : s.held.length ≤ 1000) (hq : s.held[k]? = some (n, p)) (hne : ∀ q ∈ s.held.take k, q.1 ≠ n) :
    Calls Try.prog 35 #[.pointer (some ⟨b, 0, none⟩), .int .i64 (n : Nat)] w fun e w' => e = .returned (.int .i64 (k : Nat)) ∧ w = w' := by
  refine (rfind_any n h hf).mono ?_
  rintro e w' ⟨i, rfl, hF, rfl⟩
  rcases hF with ⟨_, hg⟩ | ⟨k', p', rfl, h1, h2⟩
  · rw [find_hit hq hne] at hg; cases hg
  · have h3 : ∀ {i j : Nat} {a : Pc}, s.held[i]? = some (n, a) → (∀ q ∈ s.held.take j, q.1 ≠ n) → j ≤ i := fun {i j a} hi hj => by
      refine Nat.le_of_not_lt (fun hlt => ?_)
      exact hj (n, a) (List.mem_iff_getElem?.2 ⟨i, by rw [List.getElem?_take, if_pos hlt]; exact hi⟩) rfl
    have h4 := h3 h1 hne
    have h5 := h3 hq h2
    obtain rfl : k' = k := by omega
    exact ⟨rfl, rfl⟩
theorem find_ex : ∀ {held : List (Nat × Pc)} {n : Nat} {p : Pc}, getP held n = some p → ∃ k, held[k]? = some (n, p) ∧ ∀ q ∈ held.take k, q.1 ≠ n
  | [], _, _, h => by cases h
  | x :: r, n, p, h => by
    by_cases hx : x.1 = n
    · refine ⟨0, ?_, fun q hq => by simp at hq⟩
      unfold getP at h
      rw [List.find?_cons_of_pos (by simpa using hx)] at h
      obtain ⟨x1, x2⟩ := x
      simp only [Option.map_some, Option.some.injEq] at h hx
      subst h; subst hx
      rfl
    · have h' : getP r n = some p := by
        unfold getP at h ⊢
        rwa [List.find?_cons_of_neg (by simpa using hx)] at h
      obtain ⟨k, h1, h2⟩ := find_ex h'
      refine ⟨k + 1, h1, fun q hq => ?_⟩
      rcases List.mem_cons.1 hq with e | e
      · subst e; exact hx
      · exact h2 q e
set_option maxRecDepth 100000 in
set_option maxHeartbeats 1000000 in
theorem rgone_any {w : World} {B b : Nat} {vl vh : Value} {s : JS} (q : Nat) (h : RJ w B b vl vh s) (hq : q < rgN s.short) (hl : s.last.length ≤ 1000) (hls : ∀ x ∈ s.last, -1 ≤ x ∧ x < (rgN s.short : Int)) :
    Calls Try.prog 46 #[.pointer (some ⟨b, 0, none⟩), .int .i64 (q : Nat)] w fun e w' => e = .returned (.bool (s.last.all (pastP (rgN s.short) q))) ∧ w = w' := by
  have g3 := h.c3
  have hrow := h.row
  obtain ⟨al, cl, rfl⟩ := own_slice hrow
  have hlI : (s.last.length : Int) ≤ 1000 := by omega
  obtain ⟨res, hres⟩ : ∃ r, s.last.all (pastP (rgN s.short) q) = r := ⟨_, rfl⟩
  rw [hres]
  replace hres := Lib.hid hres
  go_enter Try.func46, Try.ntmps46
  go_wp2_with fail
  go_loopw [5] (fun vi wr => ∃ k : Nat, k ≤ s.last.length ∧ vi = .int .i64 k ∧ Hid ((s.last.take k).all (pastP (rgN s.short) q) = true) ∧ w = wr) (fun vi _ => s.last.length - (intOf vi).toNat)
  case atStart => exact ⟨0, Nat.zero_le _, rfl, Lib.hid (by simp), rfl⟩
  case round =>
    obtain ⟨k, hk, rfl, hal, rfl⟩ := hrel
    by_cases hlt : k < s.last.length
    · have hltI : (k : Int) < (s.last.length : Int) := by omega
      obtain ⟨g, hg, ⟨c, ec⟩, gk⟩ := row_at hrow hlt
      cases ec
      have hk1 : k + 1 ≤ s.last.length := by omega
      have hms : s.last.length - (intOf (.int .i64 ((k : Int) + 1))).toNat < s.last.length - (intOf (.int .i64 (k : Int))).toNat := by simp [intOf]; omega
      replace hms := Lib.hid hms
      replace hk1 := Lib.hid hk1
      have htk : s.last.take (k + 1) = s.last.take k ++ [s.last.getD k 0] := by rw [List.take_succ_eq_append_getElem hlt]; simp [List.getD_eq_getElem?_getD, hlt]
      have hall : (s.last.take (k + 1)).all (pastP (rgN s.short) q) = pastP (rgN s.short) q (s.last.getD k 0) := by rw [htk, List.all_append, hal.out]; simp
      have hno : pastP (rgN s.short) q (s.last.getD k 0) = false → res = false := fun e => by
        rw [← hres.out, ← List.take_append_drop (k + 1) s.last, List.all_append, hall, e, Bool.false_and]
      have hbd := hls (s.last.getD k 0) (by rw [List.getD_eq_getElem?_getD, List.getElem?_eq_getElem hlt]; exact List.getElem_mem hlt)
      replace hall := Lib.hid hall
      clear htk
      generalize s.last.getD k 0 = x at gk hall hno hbd
      by_cases hx : x < 0
      · clear hbd
        go_wp2_with fail
        go_ret
        exact ⟨ret_bool (hno (by unfold pastP; simp; omega)).symm, rfl⟩
      · have hx0 : 0 ≤ x := by omega
        obtain ⟨y, rfl⟩ := Int.eq_ofNat_of_zero_le hx0
        have hy : y < rgN s.short := by omega
        clear hbd hx
        have hpe : pastP (rgN s.short) q (y : Int) = decide (1 ≤ aheadI (rgN s.short) q y) := by unfold pastP; simp
        have hc := Lib.hid (rahead_any y q h hy hq)
        by_cases ha : aheadI (rgN s.short) q y < 1
        · have hf := hno (by rw [hpe]; simpa using ha)
          replace hf := Lib.hid hf
          generalize aheadI (rgN s.short) q y = A at hc ha
          clear hno hpe hq hls
          go_wp2_with (go_at_call 34; refine hc.out.mono ?_; rintro e w' ⟨rfl, rfl⟩)
          go_ret
          exact ⟨ret_bool hf.out.symm, rfl⟩
        · have hf : pastP (rgN s.short) q (y : Int) = true := by rw [hpe]; simp; omega
          rw [hf] at hall
          generalize aheadI (rgN s.short) q y = A at hc ha
          have ha1 : 1 ≤ A := by omega
          clear hno hpe ha hq hls
          go_wp2_with (go_at_call 34; refine hc.out.mono ?_; rintro e w' ⟨rfl, rfl⟩)
          go_roundw
          case rel => exact ⟨k + 1, hk1.out, rfl, hall, trivial⟩
          case measure => exact hms.out
    · have hke : k = s.last.length := by omega
      replace hke := Lib.hid hke
      have hltI : (s.last.length : Int) ≤ (k : Int) := by omega
      clear hlt
      go_wp2_with fail
      go_ret
      have e := hal.out
      rw [hke.out, List.take_length] at e
      exact ⟨ret_bool (by rw [← hres.out, e]), rfl⟩
end Go.Proofs.Ytglmlhbchfgliaa
