/-
  Add of the program as one law; awake. Conditions: a fragment has no more than 100000 bytes.
-/
import Derived.Test.YtglmlhbchfgliaaMuAddOk
namespace Go.Proofs.Ytglmlhbchfgliaa
open Go.RowKit Go.Maps
/-- the fragment that the bytes l are -/
def pcOf (l : List UInt8) (short : Bool) : Pc := ⟨(headP l short).first, (headP l short).last, (headP l short).body⟩
/-- what Add does: the datagrams, what is wrong, the state behind it -/
def AddR (s : JS) (link : Int) (l : List UInt8) (L : List (List UInt8)) (err : Nat) (t : JS) : Prop :=
  if link < 0 ∨ (s.last.length : Int) ≤ link then L = [] ∧ err = 1 ∧ t = s
  else if (headP l s.short).err ≠ 0 then L = [] ∧ err = (headP l s.short).err ∧ t = s
  else if oldP s link.toNat (headP l s.short).n = true then L = [] ∧ err = 8 ∧ t = s
  else err = 0 ∧ Goes (putP s link.toNat (headP l s.short).n (pcOf l s.short)) L t
theorem AddR.one {s t u : JS} {link : Int} {l : List UInt8} {L M : List (List UInt8)} {e f : Nat} (h : AddR s link l L e t) (k : AddR s link l M f u) : L = M ∧ e = f ∧ t = u := by
  unfold AddR at h k
  split at h
  · rename_i h1; rw [if_pos h1] at k; obtain ⟨rfl, rfl, rfl⟩ := h; obtain ⟨rfl, rfl, rfl⟩ := k; exact ⟨rfl, rfl, rfl⟩
  · rename_i h1; rw [if_neg h1] at k
    split at h
    · rename_i h2; rw [if_pos h2] at k; obtain ⟨rfl, rfl, rfl⟩ := h; obtain ⟨rfl, rfl, rfl⟩ := k; exact ⟨rfl, rfl, rfl⟩
    · rename_i h2; rw [if_neg h2] at k
      split at h
      · rename_i h3; rw [if_pos h3] at k; obtain ⟨rfl, rfl, rfl⟩ := h; obtain ⟨rfl, rfl, rfl⟩ := k; exact ⟨rfl, rfl, rfl⟩
      · rename_i h3; rw [if_neg h3] at k
        obtain ⟨e1, e2⟩ := h.2.one k.2
        exact ⟨e1, h.1.trans k.1.symm, e2⟩
/-- what holds of a joiner between two calls -/
structure Rest (s : JS) : Prop where
  ok : Ok s
  few : s.held.length ≤ 64
theorem AddR.rest {s t : JS} {link : Int} {l : List UInt8} {L : List (List UInt8)} {e : Nat} (h : AddR s link l L e t) (hs : Rest s) (hl : l.length ≤ 100000) : Rest t ∧ t.short = s.short ∧ t.most = s.most ∧ t.last.length = s.last.length ∧ L.length ≤ 65 := by
  unfold AddR at h
  split at h
  · obtain ⟨rfl, rfl, rfl⟩ := h; exact ⟨hs, rfl, rfl, rfl, Nat.zero_le _⟩
  · split at h
    · obtain ⟨rfl, rfl, rfl⟩ := h; exact ⟨hs, rfl, rfl, rfl, Nat.zero_le _⟩
    · rename_i h2
      split at h
      · obtain ⟨rfl, rfl, rfl⟩ := h; exact ⟨hs, rfl, rfl, rfl, Nat.zero_le _⟩
      · rename_i h3
        have he : (headP l s.short).err = 0 := by simpa using h2
        have ha : 0 ≤ aheadI (rgN s.short) s.next (headP l s.short).n := by
          unfold oldP at h3
          simp only [Bool.or_eq_true, decide_eq_true_eq, not_or] at h3
          omega
        have hk := hs.ok.put (link := link.toNat) (p := pcOf l s.short) (headP_lt he) ha hs.few (Nat.le_trans headP_len hl)
        obtain ⟨a1, a2, a3, a4, a5, a6⟩ := h.2.ok hk
        have hf := hs.few
        refine ⟨⟨a1, a2⟩, a5, a6, by rw [a4]; simp [putP], ?_⟩
        simp [putP] at a3
        omega
theorem add_any {w : World} {B b bm : Nat} {vl : Value} {s : JS} {a : Option Addr} {n c : Nat} {l : List UInt8} (link : Int) (h : Jo w B b bm vl s) (hs : Rest s) (hB : Bts w a n c l) (hl : l.length ≤ 100000) :
    Calls Try.prog 15 #[.pointer (some ⟨b, 0, none⟩), .int .i64 link, .slice a n c] w fun e w' => ∃ v L err t, e = .returned (.tuple #[v, .int .i64 (err : Nat)]) ∧ AddR s link l L err t ∧ Jo w' B b bm vl t ∧ Fr w' w.heap.size v L ∧ ButOf (JFoot b bm vl) w w' := by
  have still : ∀ {e : Ending} {w' : World} {err : Nat}, (e = .returned (.tuple #[.slice none 0 0, .int .i64 (err : Nat)]) ∧ Below w.heap.size w w') → AddR s link l [] err s → ∃ v L err t, e = .returned (.tuple #[v, .int .i64 (err : Nat)]) ∧ AddR s link l L err t ∧ Jo w' B b bm vl t ∧ Fr w' w.heap.size v L ∧ ButOf (JFoot b bm vl) w w' :=
    fun he hr => ⟨_, _, _, _, he.1, hr, h.below he.2, Fr.nil _ _, ButOf.of_below he.2⟩
  by_cases h1 : link < 0 ∨ (s.last.length : Int) ≤ link
  · exact (add_arg link _ h h1 hs.ok.links.2).mono (fun e w' he => still (err := 1) he (by unfold AddR; rw [if_pos h1]; exact ⟨rfl, rfl, rfl⟩))
  · obtain ⟨k, rfl⟩ := Int.eq_ofNat_of_zero_le (show 0 ≤ link by omega)
    have hk : k < s.last.length := by omega
    by_cases h2 : (headP l s.short).err ≠ 0
    · exact (add_head k h hB hk h2).mono (fun e w' he => still he (by unfold AddR; rw [if_neg h1, if_pos h2]; exact ⟨rfl, rfl, rfl⟩))
    · have h2' : (headP l s.short).err = 0 := by simpa using h2
      by_cases h3 : oldP s k (headP l s.short).n = true
      · exact (add_old k h hB hk h2' h3).mono (fun e w' he => still (err := 8) he (by unfold AddR; rw [if_neg h1, if_neg h2, if_pos (show oldP s (k : Int).toNat (headP l s.short).n = true from h3)]; exact ⟨rfl, rfl, rfl⟩))
      · refine (add_ok k h hs.ok hs.few hB hl hk h2' (by simpa using h3)).mono ?_
        rintro e w' ⟨v, L, t, rfl, hG, hJ, hF, hb⟩
        refine ⟨v, L, 0, t, rfl, ?_, hJ, hF, hb⟩
        unfold AddR
        rw [if_neg h1, if_neg h2, if_neg (show ¬ oldP s (k : Int).toNat (headP l s.short).n = true from h3)]
        exact ⟨rfl, hG⟩
theorem Fr.slice {w : World} {B : Nat} {v : Value} {L : List (List UInt8)} (h : Fr w B v L) : ∃ a c, v = .slice a L.length c := by
  obtain ⟨xs, h1, _⟩ := h.ex
  exact own_slice h1
/-- one of the rows -/
theorem Fr.at_ {w : World} {B c : Nat} {a : Option Addr} {L : List (List UInt8)} {n : Nat} (h : Fr w B (.slice a n c) L) {i : Nat} (hi : i < L.length) (hs : (L.getD i []).length ≤ 140737488355328) : ∃ g xa xc, a = some ⟨g, 0, none⟩ ∧ w.cell? ⟨g, i, none⟩ = some (.slice xa (L.getD i []).length xc) ∧ Bts w xa (L.getD i []).length xc (L.getD i []) := by
  obtain ⟨xs, h1, h2⟩ := h.ex
  obtain ⟨x, hx1, hx2⟩ := h2.get hi
  obtain ⟨xa, xc, rfl, hB⟩ := Bts.of_own hx2 hs
  rcases h1.2 with ⟨e, h0⟩ | ⟨g, cap, cur, e, _, hg, _⟩
  · omega
  · cases e
    refine ⟨g, xa, xc, rfl, ?_, hB⟩
    have hx := World.ownsRow.cellAt h1 i (by omega)
    exact hx.trans hx1
theorem newJ_rest (links most : Nat) (short : Bool) (h1 : 1 ≤ links) (h2 : links ≤ 16) : Rest (newJ links most short) := by
  have hl : (newJ links most short).last.length = links := by simp [newJ]
  have hn : ∀ p, ¬ p ∈ (newJ links most short).held := fun p hp => by cases hp
  refine ⟨⟨fun p hp => absurd hp (hn p), fun p hp => absurd hp (hn p), by rw [hl]; exact ⟨h1, h2⟩, rgN_pos _, Nat.zero_le _, fun p hp => absurd hp (hn p), fun x hx => ?_⟩, Nat.zero_le _⟩
  have := rgN_pos short
  rw [List.eq_of_mem_replicate hx]
  exact ⟨by omega, by show (-1 : Int) < (rgN short : Int); omega⟩
/-- chapter 23's example -/
def exA : List UInt8 := [128, 0, 1, 2]
def exB : List UInt8 := [64, 1, 3]
def exJ1 : JS := ⟨true, 100, 0, [0], [(0, ⟨true, false, [1, 2]⟩)], 0⟩
def exJ2 : JS := ⟨true, 100, 2, [1], [], 0⟩
set_option maxRecDepth 100000 in
theorem ex_cut : cutP [1, 2, 3] 2 0 true = ([exA, exB], 2, 0) := by kernel_rfl
set_option maxRecDepth 100000 in
theorem ex_add1 : AddR (newJ 1 100 true) 0 exA [] 0 exJ1 := by
  unfold AddR
  rw [if_neg (by decide), if_neg (by decide), if_neg (by decide)]
  exact ⟨rfl, Goes.stop (by kernel_rfl)⟩
set_option maxRecDepth 100000 in
theorem ex_add2 : AddR exJ1 0 exB [[1, 2, 3]] 0 exJ2 := by
  unfold AddR
  rw [if_neg (by decide), if_neg (by decide), if_neg (by decide)]
  exact ⟨rfl, Goes.go (t := exJ2) (d := [[1, 2, 3]]) (by kernel_rfl) (Goes.stop (by kernel_rfl))⟩
set_option maxRecDepth 100000 in
theorem ex_add3 : AddR exJ2 0 exA [] 8 exJ2 := by
  unfold AddR
  rw [if_neg (by decide), if_neg (by decide), if_pos (by decide)]
  exact ⟨rfl, rfl, rfl⟩
theorem Jo.foot {w : World} {B b bm k : Nat} {vl : Value} {s : JS} (h : Jo w B b bm vl s) (hk : JFoot b bm vl k) : B ≤ k := by
  rcases hk with e | e | e
  · rw [e]; exact h.base
  · rw [e]; exact h.bmap
  · exact (own_ownlt h.row e).1
/-- what a joiner that the call made does is not seen from ahead of it -/
theorem Jo.under {w0 w w' : World} {B b bm : Nat} {vl : Value} {s : JS} (h : Jo w B b bm vl s) (h0 : Below w0.heap.size w0 w) (hB : w0.heap.size ≤ B) (hb : ButOf (JFoot b bm vl) w w') : Below w0.heap.size w0 w' :=
  below_frame h0 hb (fun _ _ hk => Nat.le_trans hB (h.foot hk)) h0.size
theorem bts123 (w : World) : Bts (w.alloc (.cells #[.int .u8 1, .int .u8 2, .int .u8 3] 5)) (some ⟨w.heap.size, 0, none⟩) 3 3 [1, 2, 3] := Bts.new (w := w) [1, 2, 3] (by decide)
/-- the rows of chapter 23's example -/
theorem ex_rows {w : World} {B c n : Nat} {a : Option Addr} (h : Fr w B (.slice a n c) [exA, exB]) : ∃ g xa xc ya yc, a = some ⟨g, 0, none⟩ ∧ w.cell? ⟨g, 0, none⟩ = some (.slice xa 4 xc) ∧ Bts w xa 4 xc exA ∧ w.cell? ⟨g, 1, none⟩ = some (.slice ya 3 yc) ∧ Bts w ya 3 yc exB := by
  obtain ⟨g, xa, xc, rfl, h1, h2⟩ := h.at_ (i := 0) (by decide) (by decide)
  obtain ⟨g', ya, yc, e, h3, h4⟩ := h.at_ (i := 1) (by decide) (by decide)
  cases e
  exact ⟨g, xa, xc, ya, yc, rfl, h1, h2, h3, h4⟩
set_option maxRecDepth 100000 in
set_option maxHeartbeats 2000000 in
theorem awake_any (w : World) : Calls Try.prog 12 #[] w fun e w' => e = .returned (.bool true) ∧ Below w.heap.size w w' := by
  go_enter Try.func12, Try.ntmps12
  have hb0 := below_alloc (Below.refl w.heap.size w) (.cells #[.int .u8 1, .int .u8 2, .int .u8 3] 5) (Nat.le_refl _)
  go_wp2_with (first | (go_at_call 13; refine (cut_any 2 0 true (bts123 w) (by decide) (by decide)).mono ?_; rintro e w1 ⟨v, rfl, hF, hb1⟩; rw [ex_cut] at hF ⊢; obtain ⟨av, cv, rfl⟩ := hF.slice) | (go_at_call 14; refine (new_any 1 100 true (by decide) (by decide) (by decide) (by decide)).mono ?_; rintro e w2 ⟨vl, rfl, hJ, hb2⟩; have hF2 := hF.below hb2; obtain ⟨g, xa, xc, ya, yc, rfl, c1, B1, c2, B2⟩ := ex_rows hF2) | (go_at_call 15; with_reducible show Calls _ _ _ w2 _; refine (add_any 0 hJ (newJ_rest 1 100 true (by decide) (by decide)) B1 (by decide)).mono ?_; rintro e w3 ⟨v3, L3, e3, t3, rfl, hR3, hJ3, hF3, hb3⟩; obtain ⟨rfl, rfl, rfl⟩ := hR3.one ex_add1; obtain ⟨a3, q3, rfl⟩ := hF3.slice; have hF23 := hF2.jo hJ hb3; obtain ⟨g', xa', xc', ya', yc', eg, c1', B1', c2', B2'⟩ := ex_rows hF23; cases eg; have hr3 := (hR3.rest (newJ_rest 1 100 true (by decide) (by decide)) (by decide)).1) | (go_at_call 15; with_reducible show Calls _ _ _ w3 _; refine (add_any 0 hJ3 hr3 B2' (by decide)).mono ?_; rintro e w4 ⟨v4, L4, e4, t4, rfl, hR4, hJ4, hF4, hb4⟩; obtain ⟨rfl, rfl, rfl⟩ := hR4.one ex_add2; obtain ⟨a4, q4, rfl⟩ := hF4.slice; obtain ⟨g4, ya4, yc4, rfl, c4, B4⟩ := hF4.at_ (i := 0) (by decide) (by decide)) | (go_at_call 16; refine (same_any _ _ _ _ _ _ _ _ _ (B4.below (below_alloc (Below.refl w4.heap.size w4) _ (Nat.le_refl _)) (Nat.le_refl _)) (bts123 w4)).mono ?_; rintro e w5 ⟨rfl, hb5⟩))
  go_ret
  have H1 := hb0.trans (hb1.mono hb0.size)
  have H2 := H1.trans (hb2.mono H1.size)
  have H3 := hJ.under H2 H1.size hb3
  have H4 := hJ3.under H3 H1.size hb4
  have H5 := below_alloc H4 (.cells #[.int .u8 1, .int .u8 2, .int .u8 3] 5) (Nat.le_refl _)
  exact ⟨ret_bool (by decide), H5.trans (hb5.mono H5.size)⟩
end Go.Proofs.Ytglmlhbchfgliaa
