/-
  Fragments that come on several links, each in its order, in any order among the links: plainly. No conditions.
-/
import Derived.Test.YtglmlhbchfgliaaMuAw
import Derived.Test.YtglmlhbchfgliaaMuLine3
import Derived.Test.YtglmlhbchfgliaaMuRRun
namespace Go.Proofs.Ytglmlhbchfgliaa
open Go.RowKit Go.Maps
/-- a datagram's fragments -/
structure Gram (ps : List Pc) (D : List UInt8) : Prop where
  ne : ps ≠ []
  first : ∀ k x, ps[k]? = some x → x.first = decide (k = 0)
  last : ∀ k x, ps[k]? = some x → x.last = decide (k + 1 = ps.length)
  cat : catB ps = D
  most : D.length ≤ 4096
def Grams : List (List Pc) → List (List UInt8) → Prop
  | [], [] => True
  | ps :: r, D :: q => Gram ps D ∧ Grams r q
  | _, _ => False
theorem Grams.snoc : ∀ {r : List (List Pc)} {q : List (List UInt8)} {ps : List Pc} {D : List UInt8}, Grams r q → Gram ps D → Grams (r ++ [ps]) (q ++ [D])
  | [], [], _, _, _, h => ⟨h, trivial⟩
  | _ :: _, _ :: _, _, _, h, k => ⟨h.1, Grams.snoc h.2 k⟩
  | [], _ :: _, _, _, h, _ => h.elim
  | _ :: _, [], _, _, h, _ => h.elim
/-- numbers that are dealt to links, and which of them came -/
structure Dealt (P : List Pc) (links : Nat) (lk : Nat → Nat) (add : Nat → Bool) : Prop where
  pos : 0 < links
  few : P.length ≤ 60
  lt : ∀ m, add m = true → m < P.length
  link : ∀ m, m < P.length → lk m < links
  closed : ∀ m m', m < m' → m' < P.length → lk m = lk m' → add m' = true → add m = true
/-- the joiner's state, where so many numbers came -/
structure Spr (s : JS) (short : Bool) (P : List Pc) (links : Nat) (lk : Nat → Nat) (add : Nat → Bool) (rest : List (List Pc)) (DR : List (List UInt8)) (c : Nat) : Prop where
  sh : s.short = short
  most : s.most = 4096
  le : s.next ≤ P.length
  drop : P.drop s.next = rest.flatten
  grams : Grams rest DR
  held : ∀ m, getP s.held m = if s.next ≤ m ∧ add m = true then P[m]? else none
  few : s.held.length ≤ c
  cle : c ≤ 60
  nlinks : s.last.length = links
  last : ∀ i, i < links → (s.last.getD i 0 = -1 ∧ ∀ m, add m = true → lk m ≠ i) ∨ ∃ m : Nat, s.last.getD i 0 = (m : Int) ∧ add m = true ∧ lk m = i ∧ ∀ m', add m' = true → lk m' = i → m' ≤ m
  old : ∀ m, m < s.next → add m = true
  lost : s.lost = 0
theorem getP_filter {f : Nat → Bool} {n : Nat} : ∀ {l : List (Nat × Pc)}, getP (l.filter fun p => f p.1) n = if f n = true then getP l n else none
  | [] => by simp [getP]
  | (m, p) :: r => by
    have ih := getP_filter (f := f) (n := n) (l := r)
    by_cases hm : f m = true
    · rw [List.filter_cons_of_pos (by simpa using hm), getP_cons, getP_cons, ih]
      by_cases he : m = n
      · subst he; simp [hm]
      · simp [he]
    · rw [List.filter_cons_of_neg (by simpa using hm), getP_cons, ih]
      by_cases he : m = n
      · subst he; simp [hm]
      · simp [he]
theorem joinF_end2 {most : Nat} {q : Pc} (hq : q.last = true) {tail : List Pc} : ∀ {ps : List Pc} {i : Nat} {acc : List UInt8}, (∀ p ∈ ps, p.last = false) → (∀ k p, (ps ++ [q])[k]? = some p → 0 < i + k → p.first = false) → (acc ++ catB (ps ++ [q])).length ≤ most →
    joinF most i acc (ps ++ q :: tail) = some (i + ps.length + 1, some (acc ++ catB (ps ++ [q])))
  | [], i, acc, _, h2, h3 => by
    have hc : catB ([] ++ [q]) = q.b := by simp [catB]
    rw [hc] at h3 ⊢
    rw [List.nil_append, joinF, if_neg (fun e => by have := h2 0 q rfl (by omega); rw [e.2] at this; cases this), if_pos hq, if_pos h3]
    rfl
  | p :: r, i, acc, h1, h2, h3 => by
    have hp := h1 p List.mem_cons_self
    have hc : acc ++ catB (p :: r ++ [q]) = (acc ++ p.b) ++ catB (r ++ [q]) := by simp [catB]
    rw [hc] at h3 ⊢
    rw [List.cons_append, joinF, if_neg (fun e => by have := h2 0 p rfl (by omega); rw [e.2] at this; cases this), if_neg (by simp [hp])]
    rw [joinF_end2 hq (fun x hx => h1 x (List.mem_cons_of_mem _ hx)) (fun k x hk hi => h2 (k + 1) x (by simpa using hk) (by omega)) h3]
    simp only [List.length_cons]
    congr 2
    omega
theorem Gram.join {ps : List Pc} {D : List UInt8} (h : Gram ps D) (tail : List Pc) : joinP 4096 (ps ++ tail) = some (ps.length, some D) := by
  have hl := List.dropLast_concat_getLast h.ne
  generalize hq : ps.getLast h.ne = q at hl
  generalize hd : ps.dropLast = d at hl
  have hlen : d.length + 1 = ps.length := by rw [← hl]; simp
  have hlast : q.last = true := by
    rw [h.last d.length q (by rw [← hl, List.getElem?_append_right (Nat.le_refl _)]; simp)]
    simpa using hlen
  have hno : ∀ p ∈ d, p.last = false := fun p hp => by
    obtain ⟨k, hk⟩ := List.mem_iff_getElem?.1 hp
    have hkl := (List.getElem?_eq_some_iff.1 hk).1
    rw [h.last k p (by rw [← hl, List.getElem?_append_left hkl]; exact hk)]
    simp; omega
  have hj := joinF_end2 (most := 4096) hlast (tail := tail) (ps := d) (i := 0) (acc := []) hno (fun k p hk hi => by rw [hl] at hk; rw [h.first k p hk]; simp; omega) (by rw [hl, List.nil_append, h.cat]; exact h.most)
  rw [hl, List.nil_append, h.cat, show d ++ q :: tail = ps ++ tail by rw [← hl]; simp] at hj
  cases hc : ps ++ tail with
  | nil =>
    have := congrArg List.length hc
    simp only [List.length_append, List.length_nil] at this
    omega
  | cons x r =>
    rw [hc] at hj
    have hx : ps[0]? = some x := by
      have : (ps ++ tail)[0]? = some x := by rw [hc]; rfl
      rwa [List.getElem?_append_left (by omega)] at this
    rw [joinP_cons (by rw [h.first 0 x hx]; rfl), hj]
    congr 2
    omega
theorem Gram.part {ps : List Pc} {D : List UInt8} (h : Gram ps D) {n : Nat} (hn : n < ps.length) (most : Nat) : joinP most (ps.take n) = none ∧ oddP (ps.take n) = false := by
  cases hc : ps.take n with
  | nil => exact ⟨rfl, rfl⟩
  | cons x r =>
    have hn0 : 0 < n := by
      cases n with
      | zero => simp at hc
      | succ n => omega
    have hx : ps[0]? = some x := by
      have : (ps.take n)[0]? = some x := by rw [hc]; rfl
      rwa [List.getElem?_take, if_pos hn0] at this
    have hf : x.first = true := by rw [h.first 0 x hx]; rfl
    refine ⟨?_, by show (!x.first) = false; rw [hf]; rfl⟩
    rw [joinP_cons hf, ← hc]
    refine joinF_none (fun p hp => ?_)
    obtain ⟨k, hk⟩ := List.mem_iff_getElem?.1 hp
    rw [List.getElem?_take] at hk
    split at hk
    · rw [h.last k p hk]; simp; omega
    · cases hk
section
variable {s : JS} {short : Bool} {P : List Pc} {links : Nat} {lk : Nat → Nat} {add : Nat → Bool} {rest : List (List Pc)} {DR : List (List UInt8)} {c : Nat}
theorem Spr.ring (h : Spr s short P links lk add rest DR c) (hd : Dealt P links lk add) : s.next < rgN s.short ∧ s.next ≤ 60 := by
  have h1 := rgN_big s.short
  have h2 := h.le
  have h3 := hd.few
  omega
/-- what stands in a row -/
theorem Spr.run (h : Spr s short P links lk add rest DR c) (hd : Dealt P links lk add) : ∃ n, runP s = (P.drop s.next).take n ∧ (runP s).length = n ∧ s.next + n ≤ P.length ∧ add (s.next + n) = false ∧ ∀ i, i < n → add (s.next + i) = true := by
  obtain ⟨h1, h2⟩ := h.ring hd
  have hR := rgN_big s.short
  have hc := h.few
  have hcl := h.cle
  have hfew := hd.few
  have hrl := runP_few h1 (by omega)
  have hat : ∀ k, k ≤ (runP s).length → getP s.held (s.next + k) = (runP s)[k]? := fun k hk => by
    have := run_at h1 (by omega) hk
    rwa [Nat.mod_eq_of_lt (by omega)] at this
  have hin : ∀ k, k < (runP s).length → add (s.next + k) = true ∧ (runP s)[k]? = P[s.next + k]? := fun k hk => by
    have h3 := hat k (by omega)
    rw [h.held, List.getElem?_eq_getElem hk] at h3
    split at h3
    · rename_i h4
      exact ⟨h4.2, by rw [h3, List.getElem?_eq_getElem hk]⟩
    · cases h3
  have hle : s.next + (runP s).length ≤ P.length := by
    cases hl : (runP s).length with
    | zero => exact h.le
    | succ k =>
      have := hd.lt _ (hin k (by omega)).1
      omega
  refine ⟨(runP s).length, ?_, rfl, hle, ?_, fun i hi => (hin i hi).1⟩
  · refine List.ext_getElem? (fun k => ?_)
    rw [List.getElem?_take, List.getElem?_drop]
    split
    · rename_i hk; exact (hin k hk).2
    · rename_i hk; rw [List.getElem?_eq_none_iff]; omega
  · cases ha : add (s.next + (runP s).length) with
    | false => rfl
    | true =>
      have h3 := hat _ (Nat.le_refl _)
      rw [h.held, if_pos ⟨by omega, ha⟩, List.getElem?_eq_getElem (hd.lt _ ha)] at h3
      rw [List.getElem?_eq_none (Nat.le_refl _)] at h3
      cases h3
theorem ahead_at {R a m : Nat} (h1 : a ≤ 60) (h2 : m ≤ 60) (hR : 4096 ≤ R) : aheadI R a m = if a ≤ m then ((m - a : Nat) : Int) else -1 := by
  have hc := onR_cases (R := R) (base := a) (n := m) (by omega) (by omega)
  rw [aheadI_eq]
  split
  · rename_i h3
    rw [if_neg (by omega)]
  · rename_i h3
    split
    · congr 1; omega
    · omega
/-- no number is lost -/
theorem Spr.gone (h : Spr s short P links lk add rest DR c) (hd : Dealt P links lk add) {n : Nat} (hn : s.next + n ≤ P.length) (ha : add (s.next + n) = false) : goneP s n = false := by
  have hR := rgN_big s.short
  have hfew := hd.few
  have key : ∀ i, i < links → pastP (rgN s.short) (s.next + n) (s.last.getD i 0) = false → goneP s n = false := fun i hi hp => by
    unfold goneP
    rw [Nat.mod_eq_of_lt (by omega)]
    rw [List.all_eq_false]
    have hil : i < s.last.length := by rw [h.nlinks]; exact hi
    refine ⟨s.last.getD i 0, by rw [List.getD_eq_getElem?_getD, List.getElem?_eq_getElem hil]; exact List.getElem_mem hil, by rw [hp]; decide⟩
  have past : ∀ m : Nat, m < s.next + n → pastP (rgN s.short) (s.next + n) (m : Int) = false := fun m hm => by
    unfold pastP
    rw [Int.toNat_natCast, ahead_at (by omega) (by omega) hR, if_neg (by omega)]
    simp
  have none : pastP (rgN s.short) (s.next + n) (-1) = false := by simp [pastP]
  by_cases hq : s.next + n < P.length
  · have hl := hd.link _ hq
    refine key _ hl ?_
    rcases h.last _ hl with ⟨e, _⟩ | ⟨m, e, h1, h2, _⟩
    · rw [e]; exact none
    · rw [e]
      refine past m ?_
      rcases Nat.lt_trichotomy m (s.next + n) with h3 | h3 | h3
      · exact h3
      · rw [h3, ha] at h1; cases h1
      · have := hd.closed _ _ h3 (hd.lt _ h1) h2.symm h1
        rw [ha] at this; cases this
  · refine key 0 hd.pos ?_
    rcases h.last _ hd.pos with ⟨e, _⟩ | ⟨m, e, h1, h2, _⟩
    · rw [e]; exact none
    · rw [e]
      exact past m (by have := hd.lt _ h1; omega)
/-- a datagram is whole -/
theorem Spr.whole {ps : List Pc} {D : List UInt8} (h : Spr s short P links lk add (ps :: rest) (D :: DR) c) (hd : Dealt P links lk add) (ha : ∀ i, i < ps.length → add (s.next + i) = true) :
    ∃ t, stepP s = some (t, [D]) ∧ Spr t short P links lk add rest DR c := by
  obtain ⟨h1, h2⟩ := h.ring hd
  have hR := rgN_big s.short
  have hfew := hd.few
  obtain ⟨n, hrun, hnl, hn, hna, hni⟩ := h.run hd
  have hg := h.grams.1
  have hnp : ps.length ≤ n := by
    rcases Nat.lt_or_ge n ps.length with e | e
    · have := ha n e; rw [hna] at this; cases this
    · exact e
  have hdr := h.drop
  rw [List.flatten_cons] at hdr
  rw [hdr, List.take_append, List.take_of_length_le hnp] at hrun
  have hj : joinP s.most (runP s) = some (ps.length, some D) := by rw [hrun, h.most]; exact hg.join _
  refine ⟨passP s ps.length, by unfold stepP; rw [hj]; rfl, ?_⟩
  have hnx : (passP s ps.length).next = s.next + ps.length := by
    show (s.next + ps.length) % rgN s.short = _
    exact Nat.mod_eq_of_lt (by omega)
  refine ⟨h.sh, h.most, by rw [hnx]; omega, ?_, h.grams.2, fun m => ?_, Nat.le_trans (List.length_filter_le ..) h.few, h.cle, h.nlinks, h.last, fun m hm => ?_, h.lost⟩
  · rw [hnx, ← List.drop_drop, hdr, List.drop_append, List.drop_of_length_le (Nat.le_refl _), Nat.sub_self]; simp
  · rw [hnx]
    show getP (s.held.filter fun p => keepP (rgN s.short) s.next ps.length p.1) m = _
    rw [getP_filter, h.held]
    cases hma : add m with
    | false => simp
    | true =>
      have hml := hd.lt _ hma
      by_cases hle : s.next ≤ m
      · have hk : keepP (rgN s.short) s.next ps.length m = decide (s.next + ps.length ≤ m) := by
          unfold keepP
          rw [ahead_at h2 (by omega) hR, if_pos hle]
          rw [Bool.eq_iff_iff]
          simp
          omega
        rw [hk]
        by_cases h3 : s.next + ps.length ≤ m
        · simp [h3, hle]
        · simp [h3]
      · simp [hle]
        intro h3
        omega
  · rw [hnx] at hm
    by_cases hlt : m < s.next
    · exact h.old m hlt
    · have := ha (m - s.next) (by omega)
      rwa [show s.next + (m - s.next) = m by omega] at this
/-- no datagram is whole -/
def Stuck (s : JS) (add : Nat → Bool) : List (List Pc) → Prop
  | [] => True
  | ps :: _ => ∃ i, i < ps.length ∧ add (s.next + i) = false
theorem Spr.still (h : Spr s short P links lk add rest DR c) (hd : Dealt P links lk add) (hs : Stuck s add rest) : stepP s = none := by
  obtain ⟨n, hrun, hnl, hn, hna, hni⟩ := h.run hd
  have hgo := h.gone hd hn hna
  have hfew := h.few
  have hcl := h.cle
  have key : joinP s.most (runP s) = none ∧ oddP (runP s) = false := by
    cases rest with
    | nil =>
      have hdr := h.drop
      rw [List.flatten_nil] at hdr
      rw [hdr, List.take_nil] at hrun
      rw [hrun]
      exact ⟨rfl, rfl⟩
    | cons ps rest =>
      obtain ⟨i, hi, hia⟩ := hs
      cases DR with
      | nil => exact h.grams.elim
      | cons D DR =>
        have hnp : n < ps.length := by
          rcases Nat.lt_or_ge i n with e | e
          · have := hni i e; rw [hia] at this; cases this
          · omega
        have hdr := h.drop
        rw [List.flatten_cons] at hdr
        rw [hdr, List.take_append, show n - ps.length = 0 by omega, List.take_zero, List.append_nil] at hrun
        rw [hrun]
        exact h.grams.1.part hnp _
  unfold stepP
  rw [key.1, key.2, hnl, hgo]
  simp only [Option.isSome_none, Bool.false_eq_true, if_false]
  rw [if_neg (by omega)]
/-- all steps -/
theorem Spr.goes (hd : Dealt P links lk add) : ∀ (rest : List (List Pc)) {DR : List (List UInt8)} {s : JS}, Spr s short P links lk add rest DR c → ∃ t L rest' DR', Goes s L t ∧ DR = L ++ DR' ∧ Spr t short P links lk add rest' DR' c ∧ Stuck t add rest'
  | [], DR, s, h => by
    cases DR with
    | nil => exact ⟨s, [], [], [], Goes.stop (h.still hd trivial), rfl, h, trivial⟩
    | cons _ _ => exact h.grams.elim
  | ps :: rest, [], s, h => h.grams.elim
  | ps :: rest, D :: DR, s, h => by
    by_cases ha : ∀ i, i < ps.length → add (s.next + i) = true
    · obtain ⟨t, h1, h2⟩ := h.whole hd ha
      obtain ⟨u, L, rest', DR', h3, h4, h5, h6⟩ := Spr.goes hd rest h2
      exact ⟨u, D :: L, rest', DR', Goes.go h1 h3, by rw [h4]; rfl, h5, h6⟩
    · have hst : Stuck s add (ps :: rest) := by
        refine Classical.byContradiction (fun hc => ha (fun i hi => ?_))
        cases hai : add (s.next + i) with
        | true => rfl
        | false => exact absurd ⟨i, hi, hai⟩ hc
      exact ⟨s, [], ps :: rest, D :: DR, Goes.stop (h.still hd hst), rfl, h, hst⟩
/-- one more comes -/
theorem Spr.put {n : Nat} {p : Pc} {l : List UInt8} (h : Spr s short P links lk add rest DR c) (hd : Dealt P links lk add) (hp : P[n]? = some p) (hna : add n = false) (hpre : ∀ m, m < n → lk m = lk n → add m = true) (hh : headP l short = ⟨n, p.first, p.last, p.b, 0⟩) (hc : c + 1 ≤ 60) :
    ∃ t L rest' DR', AddR s (lk n : Nat) l L 0 t ∧ DR = L ++ DR' ∧ Spr t short P links lk (fun m => add m || decide (m = n)) rest' DR' (c + 1) ∧ Stuck t (fun m => add m || decide (m = n)) rest' ∧ Dealt P links lk (fun m => add m || decide (m = n)) := by
  obtain ⟨h1, h2⟩ := h.ring hd
  have hR := rgN_big s.short
  have hfew := hd.few
  have hn : n < P.length := (List.getElem?_eq_some_iff.1 hp).1
  have hln := hd.link _ hn
  have hnn : s.next ≤ n := by
    rcases Nat.lt_or_ge n s.next with e | e
    · have := h.old n e; rw [hna] at this; cases this
    · exact e
  have hmax : ∀ m, add m = true → lk m = lk n → m < n := fun m h3 h4 => by
    rcases Nat.lt_trichotomy m n with e | e | e
    · exact e
    · rw [e, hna] at h3; cases h3
    · have := hd.closed _ _ e (hd.lt _ h3) h4.symm h3
      rw [hna] at this; cases this
  have hd2 : Dealt P links lk (fun m => add m || decide (m = n)) := by
    refine ⟨hd.pos, hd.few, fun m hm => ?_, hd.link, fun m m' h3 h4 h5 h6 => ?_⟩
    · simp only [Bool.or_eq_true, decide_eq_true_eq] at hm
      rcases hm with e | e
      · exact hd.lt m e
      · omega
    · simp only [Bool.or_eq_true, decide_eq_true_eq] at h6 ⊢
      rcases h6 with e | e
      · exact Or.inl (hd.closed m m' h3 h4 h5 e)
      · subst e; exact Or.inl (hpre m h3 h5)
  have hput : Spr (putP s (lk n) n p) short P links lk (fun m => add m || decide (m = n)) rest DR (c + 1) := by
    refine ⟨h.sh, h.most, h.le, h.drop, h.grams, fun m => ?_, by have := h.few; simp [putP]; omega, hc, by simp [putP, h.nlinks], fun i hi => ?_, fun m hm => by simp [h.old m hm], h.lost⟩
    · show getP (s.held ++ [(n, p)]) m = if s.next ≤ m ∧ (add m || decide (m = n)) = true then P[m]? else none
      rw [getP_append, h.held]
      by_cases he : m = n
      · subst he
        simp [hna, hnn, hp]
      · have he' : ¬ n = m := fun e => he e.symm
        simp [he, he']
    · show ((s.last.set (lk n) (n : Int)).getD i 0 = -1 ∧ _) ∨ ∃ m : Nat, (s.last.set (lk n) (n : Int)).getD i 0 = (m : Int) ∧ _
      have hll : lk n < s.last.length := by rw [h.nlinks]; exact hln
      by_cases hi2 : i = lk n
      · subst hi2
        right
        refine ⟨n, by rw [List.getD_eq_getElem?_getD, List.getElem?_set_self hll]; rfl, by simp, rfl, fun m' h3 h4 => ?_⟩
        simp only [Bool.or_eq_true, decide_eq_true_eq] at h3
        rcases h3 with e | e
        · exact Nat.le_of_lt (hmax m' e h4)
        · omega
      · have hg : (s.last.set (lk n) (n : Int)).getD i 0 = s.last.getD i 0 := by rw [List.getD_eq_getElem?_getD, List.getD_eq_getElem?_getD, List.getElem?_set_ne (fun e => hi2 e.symm)]
        rw [hg]
        have hor : ∀ m, (add m || decide (m = n)) = true → lk m = i → add m = true := fun m h3 h4 => by
          simp only [Bool.or_eq_true, decide_eq_true_eq] at h3
          rcases h3 with e | e
          · exact e
          · subst e; exact absurd h4.symm hi2
        rcases h.last i hi with ⟨e, h3⟩ | ⟨m, e, h3, h4, h5⟩
        · exact Or.inl ⟨e, fun m h6 h7 => h3 m (hor m h6 h7) h7⟩
        · exact Or.inr ⟨m, e, by simp [h3], h4, fun m' h6 h7 => h5 m' (hor m' h6 h7) h7⟩
  obtain ⟨t, L, rest', DR', g1, g2, g3, g4⟩ := Spr.goes hd2 rest hput
  refine ⟨t, L, rest', DR', ?_, g2, g3, g4, hd2⟩
  have hsh := h.sh
  unfold AddR
  rw [hsh, hh, h.nlinks]
  dsimp only
  rw [if_neg (by omega), if_neg (by simp), if_neg]
  · refine ⟨rfl, ?_⟩
    have e : pcOf l short = p := by unfold pcOf; rw [hh]
    rw [e, Int.toNat_natCast]
    exact g1
  · unfold oldP
    rw [Int.toNat_natCast, h.held, ahead_at h2 (by omega) hR, if_pos hnn]
    simp only [hna, Bool.false_eq_true, and_false, if_false, Option.isSome_none, Bool.or_false]
    rcases h.last _ hln with ⟨e, _⟩ | ⟨m, e, h3, h4, _⟩
    · rw [e]; simp
    · rw [e, Int.toNat_natCast]
      have hmn := hmax m h3 h4
      have : ¬ (((n - s.next : Nat) : Int) ≤ aheadI (rgN s.short) s.next m) := by
        rw [ahead_at h2 (by omega) hR]
        split <;> omega
      simp [this]
/-- all came -/
theorem Spr.done (h : Spr s short P links lk add rest DR c) (hd : Dealt P links lk add) (hs : Stuck s add rest) (ha : ∀ m, m < P.length → add m = true) : DR = [] ∧ s.held = [] ∧ s.lost = 0 := by
  cases rest with
  | nil =>
    cases DR with
    | cons _ _ => exact h.grams.elim
    | nil =>
      refine ⟨rfl, ?_, h.lost⟩
      have hdr := h.drop
      rw [List.flatten_nil, List.drop_eq_nil_iff] at hdr
      cases hh : s.held with
      | nil => rfl
      | cons x r =>
        have h1 := h.held x.1
        rw [if_neg (fun e => by have := hd.lt _ e.2; omega), hh] at h1
        obtain ⟨x1, x2⟩ := x
        rw [getP_cons, if_pos rfl] at h1
        cases h1
  | cons ps rest =>
    obtain ⟨i, hi, hia⟩ := hs
    have hlen := congrArg List.length h.drop
    rw [List.flatten_cons, List.length_append, List.length_drop] at hlen
    have := ha (s.next + i) (by omega)
    rw [hia] at this; cases this
end
end Go.Proofs.Ytglmlhbchfgliaa
