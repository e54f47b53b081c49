/-
  The walk of the statement HuffCodes. No conditions.
-/
import Derived.Test.YtdfoimgckahjpaaHuffAw
import Derived.Test.YtdfoimgckahjpaaHuffRTake
import Derived.Test.YtdfoimgckahjpaaBitsRef4
namespace Go.Proofs.Ytdfoimgckahjpaa
open Go.RowKit
theorem codes_out {a1 a2 : Option Addr} {n1 n2 c1 c2 : Nat} {w : World} (h : 400 < n1 ∨ 60 < n2) (hn1 : n1 ≤ 9223372036854775807) (hn2 : n2 ≤ 9223372036854775807) :
    Calls Try.prog 11 #[.slice a1 n1 c1, .slice a2 n2 c2] w fun e w' => e = .returned (.bool true) ∧ Below w.heap.size w w' := by
  by_cases h1 : 400 < n1
  · go_enter Try.func11, Try.ntmps11
    go_wp2_with (go_at_call 19; refine (awake_any _).mono ?_; rintro e w1 ⟨rfl, hb⟩)
    go_ret
    exact ⟨rfl, hb⟩
  · have h2 : 60 < n2 := by omega
    go_enter Try.func11, Try.ntmps11
    go_wp2_with (go_at_call 19; refine (awake_any _).mono ?_; rintro e w1 ⟨rfl, hb⟩)
    go_ret
    exact ⟨rfl, hb⟩
/-- both sides answer alike -/
theorem both {w w1 w2 : World} {l : List Int} {e1 e2 : Ending} (h1 : Newed w l e1 w1) (h2 : RNewed w1 l e2 w2) :
    (∃ n : Nat, 0 < n ∧ n ≤ 10 ∧ e1 = .returned (.tuple #[.pointer none, .int .i64 (n : Int)]) ∧ e2 = .returned (.tuple #[.pointer none, .int .i64 (n : Int)])) ∨
    ∃ (L : List Nat) (b d : Nat), l = ints L ∧ w.heap.size ≤ b ∧ w1.heap.size ≤ d ∧ Tb w1 b L ∧ RTb w2 d L ∧ e1 = .returned (.tuple #[.pointer (some ⟨b, 0, none⟩), .int .i64 0]) ∧ e2 = .returned (.tuple #[.pointer (some ⟨d, 0, none⟩), .int .i64 0]) := by
  rcases h2.2 with ⟨hbad, q2⟩ | ⟨L, hL, k1, k2, k3⟩
  · rcases h1.2 with ⟨_, q1⟩ | ⟨M, rfl, m1, m2, _⟩
    · exact .inl ⟨1, by omega, by omega, q1, q2⟩
    · exfalso
      rcases hbad with hb | ⟨x, hx, hb⟩
      · simp [ints] at hb; omega
      · simp only [ints, List.mem_map] at hx
        obtain ⟨n, hn, rfl⟩ := hx
        have := m2 n hn
        have e : (Int.ofNat n) = (n : Int) := rfl
        rw [e] at hb
        omega
  · subst hL
    rcases (h1.of k1 k2).2 with ⟨z1, q1⟩ | ⟨z1, b, q1, hb, hT⟩
    · rcases k3 with ⟨z2, q2⟩ | ⟨z2, _⟩
      · exact .inl ⟨10, by omega, by omega, q1, q2⟩
      · rw [z1] at z2; cases z2
    · rcases k3 with ⟨z2, _⟩ | ⟨z2, d, q2, hd, hR⟩
      · rw [z1] at z2; cases z2
      · exact .inr ⟨L, b, d, rfl, hb, hd, hT, hR, q1, q2⟩
theorem Rd.grown2 {w w' : World} {b : Nat} {a : Option Addr} {c : Nat} {high : Bool} {l : List UInt8} {n k : Nat} (h : Rd w b a c high l n) (hg : w.grownBy w' (some k)) (hb : b ≠ k) (ha : 0 < l.length → ∀ x, a = some x → x.block ≠ k) : Rd w' b a c high l n :=
  ⟨h.blk.grown hg (by simpa using hb), h.bts.grown hg ha, h.ne, h.le, h.few⟩
theorem Rf.grown {w w' : World} {S b k : Nat} {v : Value} {high : Bool} {fs : List Bool} {p : Nat} (h : Rf w S b v high fs p) (hg : w.grownBy w' (some k)) (hb : b ≠ k) (hv : v.ownBlock ≠ some k) : Rf w' S b v high fs p :=
  h.but (ButOf.of_grown (K := fun i => i = k) hg (fun i hi => (Option.some.inj hi).symm)) hb (fun i hi e => hv (by rw [hi, e]))
/-- all that HuffCodes reads by, side by side -/
structure Quad (w0 w : World) (b d rb qb S : Nat) (L : List Nat) (a : Option Addr) (c : Nat) (l : List UInt8) (v : Value) (p : Nat) : Prop where
  t : Tb w b L
  m : RTb w d L
  r : Rd w rb a c false l p
  q : Rf w S qb v false (unpackB false l) p
  ne : 0 < l.length → ∀ x, a = some x → x.block ≠ qb
  g1 : w0.heap.size ≤ rb
  g2 : w0.heap.size ≤ qb
  hb : Below w0.heap.size w0 w
section
variable {w0 w w' : World} {b d rb qb S : Nat} {L : List Nat} {a : Option Addr} {c : Nat} {l : List UInt8} {v : Value} {p : Nat}
theorem Quad.rq (h : Quad w0 w b d rb qb S L a c l v p) : rb ≠ qb := blk_ne h.r.blk h.q.blk (by decide)
theorem Quad.setR (h : Quad w0 w b d rb qb S L a c l v p) {p' : Nat} (hr : Rd w' rb a c false l p') (hg : w.grownBy w' (some rb)) :
    Tb w' b L ∧ RTb w' d L ∧ Rf w' S qb v false (unpackB false l) p ∧ Below w0.heap.size w0 w' :=
  have _ := hr
  ⟨h.t.grown h.r.blk (by decide) (by decide) hg, h.m.grown h.r.blk (by decide) (by decide) hg, h.q.grown hg (Ne.symm h.rq) (own_blk_ne h.q.own h.r.blk (by decide)), below_grow h.hb hg h.hb.size h.g1⟩
theorem Quad.step (h : Quad w0 w b d rb qb S L a c l v p) {w1 w2 : World} {p' : Nat} (hr : Rd w1 rb a c false l p') (hg : w.grownBy w1 (some rb)) (hq : Rf w2 S qb v false (unpackB false l) p') (hg2 : w1.grownBy w2 (some qb)) :
    Quad w0 w2 b d rb qb S L a c l v p' := by
  obtain ⟨k1, k2, k3, k4⟩ := h.setR hr hg
  exact ⟨k1.grown k3.blk (by decide) (by decide) hg2, k2.grown k3.blk (by decide) (by decide) hg2, hr.grown2 hg2 h.rq h.ne, hq, h.ne, h.g1, h.g2, below_grow k4 hg2 k4.size h.g2⟩
theorem Quad.below (h : Quad w0 w b d rb qb S L a c l v p) (hb : Below w.heap.size w w') : Quad w0 w' b d rb qb S L a c l v p :=
  ⟨h.t.below hb, h.m.below hb, h.r.below hb (Nat.le_refl _), h.q.below hb, h.ne, h.g1, h.g2, h.hb.trans (hb.mono h.hb.size)⟩
end
theorem tk_same (L : List Nat) (l : List UInt8) (p : Nat) : tk L (fun j => (unpackB false l).getD (p + j) false) ((unpackB false l).length - p) 15 0 = tk L (fun j => bitAt false l (p + j)) (8 * l.length - p) 15 0 := by
  have e : (fun j => (unpackB false l).getD (p + j) false) = fun j => bitAt false l (p + j) := by funext j; exact unpackB_getD _ _ _
  rw [e, unpackB_length]
set_option maxRecDepth 100000 in
set_option maxHeartbeats 8000000 in
theorem codes_in {a1 a2 : Option Addr} {n1 n2 c1 c2 : Nat} {l : List Int} {lb : List UInt8} {w : World} (hL : Zs w a1 n1 c1 l) (hB : Bts w a2 n2 c2 lb) (h1 : n1 ≤ 400) (h2 : n2 ≤ 60) :
    Calls Try.prog 11 #[.slice a1 n1 c1, .slice a2 n2 c2] w fun e w' => e = .returned (.bool true) ∧ Below w.heap.size w w' := by
  have hl := hB.len
  have hln := hL.len
  go_enter Try.func11, Try.ntmps11
  go_wp2_with (go_at_call 19; refine (awake_any _).mono ?_; rintro e w1 ⟨rfl, hb⟩)
  refine (new_any (hL.below hb (Nat.le_refl _)) (by omega)).mono ?_
  intro e1 w2 hN
  have hb2 := hb.trans (hN.1.mono hb.size)
  have hRn := rnewt_any (hL.below hb2 (Nat.le_refl _)) (by omega)
  have hs1 := hb.size
  have hbo := fun e2 w3 (h : RNewed w2 l e2 w3) => (⟨both hN h, hb2.trans (h.1.mono hb2.size)⟩ : _ ∧ _)
  clear hb
  have hform : (∃ n : Nat, 0 < n ∧ e1 = .returned (.tuple #[.pointer none, .int .i64 (n : Int)])) ∨ ∃ b, e1 = .returned (.tuple #[.pointer (some ⟨b, 0, none⟩), .int .i64 0]) := by
    rcases hN.2 with ⟨_, q⟩ | ⟨_, _, _, _, ⟨_, q⟩ | ⟨_, b, q, _⟩⟩
    · exact .inl ⟨1, by omega, q⟩
    · exact .inl ⟨10, by omega, q⟩
    · exact .inr ⟨b, q⟩
  replace hbo := Lib.hid hbo
  clear hN
  rcases hform with ⟨n, hn, rfl⟩ | ⟨b, rfl⟩
  · go_wp2_with fail
    refine hRn.mono ?_
    intro e2 w3 hR
    obtain ⟨hc, hb3⟩ := hbo.out e2 w3 hR
    clear hRn hR hbo
    rcases hc with ⟨n', hn', hn2, q1, rfl⟩ | ⟨_, _, _, _, _, _, _, _, q1, _⟩
    · obtain rfl : n = n' := by
        injection q1 with q1; injection q1 with q1
        simp at q1
        omega
      have hnz : ((n : Int) != 0) = true := by simp; omega
      clear q1
      go_wp2_with fail
      go_ret
      exact ⟨rfl, hb3⟩
    · cases q1
  · go_wp2_with fail
    refine hRn.mono ?_
    intro e2 w3 hR
    obtain ⟨hc, hb3⟩ := hbo.out e2 w3 hR
    have hb23 := hR.1
    clear hRn hR hbo
    rcases hc with ⟨n', hn', hn2, q1, _⟩ | ⟨L, b', d, rfl, gb, gd, hT, hM, q1, rfl⟩
    · cases q1
    · obtain rfl : b = b' := by
        injection q1 with q1; injection q1 with q1
        simpa using q1
      clear q1
      have hT := hT.below hb23
      have hn1L : L.length = n1 := by simpa [ints] using hln
      clear hb23 hln
      obtain ⟨la, ca, lc, cc, hat⟩ := hM.at_
      have hic := hat.c
      have hil := hat.l
      go_wp2_with fail
      go_loopw [9] (fun i W => ∃ k m : Nat, k ≤ n1 ∧ i = .int .i64 (k : Nat) ∧ W = w3.drewN m) (fun i _ => n1 - (intOf i).toNat)
      case atStart => exact ⟨0, 0, by omega, rfl, rfl⟩
      case round =>
        obtain ⟨k, m, hk, rfl, rfl⟩ := hrel
        have hTm := hT.below (below_drewN (Below.refl _ _) m)
        by_cases hlt : k < n1
        · have hkL : k < L.length := by omega
          have hcd := code_in hTm hkL
          obtain ⟨b1, o1, rfl, hb1, g1⟩ := hL.at_ hb3 hlt
          rw [ints_getD] at g1
          obtain ⟨r, rfl, g2⟩ := hat.cat k hkL
          have hc0 : L.getD k 0 = 0 → codeOf L k = 0 := fun e => by unfold codeOf; rw [if_pos e]
          have hltI : (k : Int) < (L.length : Int) := by omega
          unfold nv at g2 hcd
          clear hTm hT hM hat
          generalize L.getD k 0 = X at *
          generalize codeOf L k = C at *
          by_cases h0 : X = 0
          · have hC0 := hc0 h0
            subst h0
            subst hC0
            clear hc0
            go_wp2_with fail
            refine hcd.mono ?_
            rintro e w4 ⟨rfl, m2, rfl⟩
            go_wp2_with fail
            go_roundw
            case rel => exact ⟨k + 1, _, by omega, by go_num, rfl⟩
            case measure => simp [intOf]; omega
          · have h0I : 0 < (X : Int) := by omega
            clear hc0
            go_wp2_with fail
            refine hcd.mono ?_
            rintro e w4 ⟨rfl, m2, rfl⟩
            go_wp2_with fail
            go_roundw
            case rel => exact ⟨k + 1, _, by omega, by go_num, rfl⟩
            case measure => simp [intOf]; omega
        · obtain rfl : k = n1 := by omega
          have hMm := hM.rt_drewN m
          have hce := code_end hTm
          rw [hn1L] at hce
          unfold nv at hce
          have hb4 := below_drewN hb3 m
          clear hT hM hat hic hil hL hb3
          go_wp2_with fail
          refine hce.mono ?_
          rintro e w4 ⟨rfl, m2, rfl⟩
          have hTm := hTm.below (below_drewN (Below.refl _ _) m2)
          have hMm := hMm.rt_drewN m2
          have hb4 := below_drewN hb4 m2
          clear hce
          generalize (w3.drewN m).drewN m2 = w4 at *
          go_wp2_with fail
          refine (new_reader _ _ _ lb false _ (hB.below hb4 (Nat.le_refl _)) (by omega)).mono ?_
          rintro e w5 ⟨rb, a', c', rfl, hR, hge, -, hb5⟩
          have hb5' := hb4.trans (hb5.mono hb4.size)
          have hTm := hTm.below hb5
          have hMm := hMm.below hb5
          go_wp2_with fail
          refine (ropen_any _ _ _ lb false _ (hB.below hb5' (Nat.le_refl _)) (by omega)).mono ?_
          rintro e w6 ⟨v', rfl, hQ, hb6⟩
          have hb6' := hb5'.trans (hb6.mono hb5'.size)
          have hQd : Quad w w6 b d rb w5.heap.size w5.heap.size L a' c' lb v' 0 :=
            ⟨hTm.below hb6, hMm.below hb6, hR.below hb6 (Nat.le_refl _), hQ, fun h0 x hx => by have := hR.bts.blk h0 x hx; omega, by have := hb4.size; omega, hb5'.size, hb6'⟩
          clear hTm hMm hb4 hb5 hb5' hb6 hb6' hR hQ hge hB
          generalize w5.heap.size = qb at *
          go_wp2_with fail
          go_loopw [17] (fun i W => ∃ k p : Nat, k ≤ 20 ∧ i = .int .i64 (k : Nat) ∧ Quad w W b d rb qb qb L a' c' lb v' p) (fun i _ => 20 - (intOf i).toNat)
          case atStart => exact ⟨0, 0, by omega, rfl, hQd⟩
          case round =>
            clear hQd
            obtain ⟨j, p, hj, rfl, hQ⟩ := hrel
            by_cases hlt2 : j < 20
            · have ht := htake_any hQ.t hQ.r
              replace hQ := Lib.hid hQ
              go_wp2_with fail
              refine ht.mono ?_
              rintro e w7 ⟨rfl, hr1, hg1⟩
              obtain ⟨k1, k2, k3, k4⟩ := hQ.out.setR hr1 hg1
              have ht2 := rhtake_any k2 k3
              rw [tk_same] at ht2
              clear ht k1 k2 k3 k4
              obtain ⟨x, y, q, hx⟩ : ∃ x y q, tk L (fun j => bitAt false lb (p + j)) (8 * lb.length - p) 15 0 = (x, y, q) := ⟨_, _, _, rfl⟩
              rw [hx] at ht2 hr1 ⊢
              clear hx
              simp only at hr1
              unfold nv
              go_wp2_with fail
              refine ht2.mono ?_
              rintro e w8 ⟨rfl, hq2, hg2⟩
              simp only at hq2
              have hQ2 := hQ.out.step hr1 hg1 hq2 hg2
              clear ht2 hr1 hg1 hq2 hg2 hQ
              unfold nv
              have hl1 := left_any hQ2.r
              have hl2 := fun m => rleft_any (hQ2.q.drewN m)
              rw [unpackB_length] at hl2
              generalize 8 * lb.length - (p + q) = Z at *
              replace hQ2 := Lib.hid hQ2
              replace hl2 := Lib.hid hl2
              go_wp2_with fail
              refine hl1.mono ?_
              rintro e w9 ⟨rfl, m1, rfl⟩
              go_wp2_with fail
              refine (hl2.out m1).mono ?_
              rintro e w9 ⟨rfl, m2, rfl⟩
              have hQ3 := hQ2.out.below (below_drewN (Below.refl _ _) (m1 + m2))
              clear hQ2 hl1 hl2
              go_wp2_with fail
              go_roundw
              case rel => exact ⟨j + 1, p + q, by omega, by go_num, hQ3⟩
              case measure => simp [intOf]; omega
            · go_wp2_with fail
              go_ret
              exact ⟨rfl, hQ.hb⟩
end Go.Proofs.Ytdfoimgckahjpaa
