/-
  The walk of the reference's Xor.
-/
import Derived.Test.YtokfophpjkglmaaRc4RHeap
import Derived.BigRegion
import Derived.Deep.Cut
namespace Go.Proofs.Ytokfophpjkglmaa
open Go.RowKit
theorem i64_and_nat (a b : Nat) (ha : a < 9223372036854775808) (hb : b < 9223372036854775808) : bits .and .i64 (a : Int) (b : Int) = ((a &&& b : Nat) : Int) := by
  have hx : a &&& b < 2 ^ 63 := Nat.and_lt_two_pow _ (by omega)
  show IntKind.i64.wrap ((BitVec.ofInt 64 (a : Int) &&& BitVec.ofInt 64 (b : Int)).toNat : Int) = _
  rw [BitVec.toNat_and, ofInt_u64 a (by omega), ofInt_u64 b (by omega), IntKind.wrap_i64]
  omega
theorem i64_or_nat (a b : Nat) (ha : a < 9223372036854775808) (hb : b < 9223372036854775808) : bits .or .i64 (a : Int) (b : Int) = ((a ||| b : Nat) : Int) := by
  have hx : a ||| b < 2 ^ 63 := Nat.or_lt_two_pow (by omega) (by omega)
  show IntKind.i64.wrap ((BitVec.ofInt 64 (a : Int) ||| BitVec.ofInt 64 (b : Int)).toNat : Int) = _
  rw [BitVec.toNat_or, ofInt_u64 a (by omega), ofInt_u64 b (by omega), IntKind.wrap_i64]
  omega
theorem mask255 (x : Nat) (hx : x < 1099511627776) : bits .and .i64 (x : Int) 255 = ((x % 256 : Nat) : Int) := by
  rw [show (255 : Int) = ((255 : Nat) : Int) from rfl, i64_and_nat _ _ (by omega) (by decide), show 255 = 2 ^ 8 - 1 from rfl, Nat.and_two_pow_sub_one_eq_mod]
set_option maxRecDepth 100000 in
set_option maxHeartbeats 4000000 in
theorem rXor_any (b : Nat) (C : Cph) (w : World) (a : Option Addr) (n c : Nat) (l : List UInt8) (hC : RC w b C) (hB : Bts w a n c l) (hne : 0 < n → ∀ x, a = some x → x.block ≠ b)
    (hoff : C.off + n < 1099511627776) (hid : C.id < 1099511627776) (hn : n ≤ 100000) :
    Calls Try.prog 18 #[.pointer (some ⟨b, 0, none⟩), .slice a n c] w fun e w' => ∃ v, e = .returned v ∧ w'.ownsRow w.heap.size 5 1 v n ((C.xor l).map bv) ∧ RC w' b (C.after n) ∧ w.grownBy w' (some b) := by
  have hl := hB.len
  have hblt := hC.lt
  obtain ⟨i0, hi, hz0, hz1, hz2⟩ := info_parts (show (Try.prog.info? 5).map (fun i => (i.zero, i.size, i.bytes)) = some (some (.int .u8 0), 1, 1) by kernel_rfl)
  have hi' := Lib.hid hi
  clear hi
  go_enter Try.func18, Try.ntmps18
  go_wp2_with fail
  go_loopw [5, 6] (fun v i wr => ∃ k : Nat, k ≤ n ∧ i = .int .i64 k ∧ wr.ownsRow w.heap.size 5 1 v k ((C.xor (l.take k)).map bv) ∧ RC wr b (C.after k) ∧ w.grownBy wr (some b)) (fun _ i _ => n - (intOf i).toNat)
  case atStart => exact ⟨0, by omega, rfl, own_congr (World.ownsRow_nil _ _ _ _) rfl (by simp [Cph.xor]), hC, grown_refl _ _⟩
  case round =>
    obtain ⟨k, hk, rfl, ho, hCk, hg⟩ := hrel
    have hsz := hg.size
    by_cases hlt : k < n
    · obtain ⟨ba, oa, rfl, hcl⟩ := (hB.grown hg hne).addr (by omega)
      have g1 := hcl k hlt
      clear hcl
      have hstep : (C.xor (l.take (k + 1))).map bv = (C.xor (l.take k)).map bv ++ [bv ((C.after k).out (l.getD k 0))] := by rw [Cph.xor_take l k C (by omega)]; simp
      have hofk : (C.after k).off < 1099511627776 := by rw [Cph.after_off]; omega
      have hidk : (C.after k).id < 1099511627776 := by rw [Cph.after_id]; omega
      have hnx := Cph.after_snoc k C
      generalize l.getD k 0 = x at *
      generalize C.after k = D at *
      generalize (C.xor (l.take k)).map bv = O at *
      have hstep' := Lib.hid hstep
      have hnx' := Lib.hid hnx
      clear hstep hnx hC
      have hba : ba ≠ b := hne (by omega) ⟨ba, oa, none⟩ rfl
      cases hs : D.sym with
      | true =>
        have c2 := hCk.sym
        rw [hs] at c2
        have c3 := hCk.id
        have c4 := hCk.off
        have mA := mask255 D.id hidk
        have mB := mask255 D.off hofk
        have bA : D.id % 256 < 256 := Nat.mod_lt _ (by decide)
        have bB : D.off % 256 < 256 := Nat.mod_lt _ (by decide)
        obtain ⟨Q, hQ⟩ : ∃ Q, D.off / 256 = Q := ⟨_, rfl⟩
        have bQ : Q < 1099511627776 := by omega
        have mQ : (D.off : Int).tdiv 256 = (Q : Int) := by rw [Int.tdiv_eq_ediv_of_nonneg (by omega)]; omega
        have eo : D.out x = UInt8.ofNat (31 * (D.id % 256) + 7 * (D.off % 256) + Q) := by
          simp only [Cph.out, hs, if_true]
          apply UInt8.toNat_inj.1
          simp only [UInt8.toNat_ofNat']
          omega
        obtain ⟨A, hA⟩ : ∃ A, D.id % 256 = A := ⟨_, rfl⟩
        obtain ⟨B, hBB⟩ : ∃ B, D.off % 256 = B := ⟨_, rfl⟩
        rw [hA] at mA bA eo
        rw [hBB] at mB bB eo
        clear hA hBB hQ
        have eo' := Lib.hid eo
        clear eo
        go_wp2_with fail
        go_quiet (fail)
        have hod : (wr.drewN nq).ownsRow w.heap.size 5 1 u5 k O := own_below ho (below_drewN (Below.refl wr.heap.size wr) nq)
        have hCd := hCk.grown (grown_drewN wr nq none) (by simp)
        have hgd := grown_trans hg (grown_drewN wr nq (some b))
        have hvb : ∀ m, u5.ownBlock = some m → m ≠ b := fun m hm => by have := (ho.lt m hm).1; omega
        clear ho hCk hg c2 c3 c4
        go_wp2_with (at_builtin; go_must (refine wp_app1 rfl _ _ 22 rfl w.heap.size 5 i0 _ 1 Try.underlying22 hi'.out hz0 hz1 hz2 rfl u5 k O rfl hod (.int .u8 ((31 * (A : Int) + 7 * (B : Int) + (Q : Int)) % 256)) (by rfl) rfl (by unfold maxLen; omega) (by omega) hsz ?_))
        intro v' w' ho' hg'
        have h5 := hCd.grown hg' (fun e => (hvb b e.symm) rfl)
        have g5 : w.grownBy w' (some b) := grown_over hgd hod hg'
        have c5 := h5.off
        have f5 := h5.free 258 none
        have eE : ({ D with off := D.off + 1 } : Cph) = D.nx := by simp [Cph.nx, hs]
        have h6 : RC (w'.setCell ⟨b, 258, none⟩ (.int .i64 ((D.off : Int) + 1))) b D.nx := by rw [← eE]; exact h5.setOff (D.off + 1)
        have ho6 := own_grown ho' (grown_set (w := w') (b := b) (o := 258) (v := .int .i64 ((D.off : Int) + 1))) hblt
        have g6 : w.grownBy (w'.setCell ⟨b, 258, none⟩ (.int .i64 ((D.off : Int) + 1))) (some b) := grown_trans g5 grown_set
        clear hCd hgd hod h5 g5 ho' hg' eE hs mA mB mQ
        go_wp2_with fail
        go_roundw
        case rel => exact ⟨k + 1, by omega, by go_num, own_congr ho6 rfl (by rw [hstep'.out, eo'.out]; simp [bv]), by rw [hnx'.out]; exact h6, g6⟩
        case measure => simp [intOf]; omega
      | false =>
        have c2 := hCk.sym
        rw [hs] at c2
        have c3 := hCk.i
        have f3 := hCk.free 256 none
        have rI : ((D.i.toNat : Int) + 1) % 256 = ((D.i + 1).toNat : Int) := by rw [UInt8.toNat_add]; simp
        generalize ei : D.i + 1 = ni at *
        have ei' := Lib.hid ei; clear ei
        have bI := D.i.toNat_lt
        have bJ := D.j.toNat_lt
        go_upto_region 10 with fail
        have h1 := hCk.setI ni
        have q1 : wr.grownBy (wr.setCell ⟨b, 256, none⟩ (.int .i64 (ni.toNat : Int))) (some b) := grown_set
        clear c2 c3 f3 rI
        generalize wr.setCell ⟨b, 256, none⟩ (.int .i64 (ni.toNat : Int)) = w1 at *
        have hi : ni.toNat < 256 := ni.toNat_lt
        have c4 : w1.cell? ⟨b, 256, none⟩ = some (.int .i64 (ni.toNat : Int)) := h1.i
        have c5 : w1.cell? ⟨b, 257, none⟩ = some (.int .i64 (D.j.toNat : Int)) := h1.j
        have c6 : w1.cell? ⟨b, ni.toNat, none⟩ = some (.int .u8 ((D.s.getD ni.toNat 0).toNat : Int)) := h1.at _ hi
        have f6 := h1.free 257 none
        generalize es : D.s.getD ni.toNat 0 = si at *
        have es' := Lib.hid es; clear es
        have hiI : (ni.toNat : Int) < 256 := by omega
        have rJ : ((D.j.toNat : Int) + (si.toNat : Int)) % 256 = ((D.j + si).toNat : Int) := by rw [UInt8.toNat_add]; omega
        generalize ej : D.j + si = nj at *
        have ej' := Lib.hid ej; clear ej
        have bS := si.toNat_lt
        go_still_tail 19, (by kernel_rfl)
        change wpList _ _ _ _ _ w1.drew
        have h1 : RC w1.drew b { D with i := ni } := h1.grown (grown_drew w1 none) (by simp)
        have q1 := grown_trans q1 (grown_drew w1 (some b))
        have f6 : w1.drew.frozen? ⟨b, 257, none⟩ = false := f6
        have c5 : w1.drew.cell? ⟨b, 257, none⟩ = some (.int .i64 (D.j.toNat : Int)) := c5
        clear c4 c6
        generalize w1.drew = w2 at *
        go_upto_region 11 with fail
        rw [rJ]
        have h2 := h1.setJ nj
        have q2 : wr.grownBy (w2.setCell ⟨b, 257, none⟩ (.int .i64 (nj.toNat : Int))) (some b) := grown_trans q1 grown_set
        clear c5 f6 rJ h1 q1
        generalize w2.setCell ⟨b, 257, none⟩ (.int .i64 (nj.toNat : Int)) = w3 at *
        have hj : nj.toNat < 256 := nj.toNat_lt
        have hjI : (nj.toNat : Int) < 256 := by omega
        have c4 : w3.cell? ⟨b, 256, none⟩ = some (.int .i64 (ni.toNat : Int)) := h2.i
        have c6 : w3.cell? ⟨b, ni.toNat, none⟩ = some (.int .u8 (si.toNat : Int)) := by rw [← es'.out]; exact h2.at _ hi
        go_quiet (fail)
        have h2 := h2.grown (grown_drewN w3 nq none) (by simp)
        have q2 := grown_trans q2 (grown_drewN w3 nq (some b))
        clear c4 c6
        generalize w3.drewN nq = w4 at *
        go_upto_region 12 with fail
        have c4 : w4.cell? ⟨b, 256, none⟩ = some (.int .i64 (ni.toNat : Int)) := h2.i
        have c5 : w4.cell? ⟨b, 257, none⟩ = some (.int .i64 (nj.toNat : Int)) := h2.j
        have c6 : w4.cell? ⟨b, ni.toNat, none⟩ = some (.int .u8 (si.toNat : Int)) := by rw [← es'.out]; exact h2.at _ hi
        have c7 : w4.cell? ⟨b, nj.toNat, none⟩ = some (.int .u8 ((D.s.getD nj.toNat 0).toNat : Int)) := h2.at _ hj
        have f6 := h2.free ni.toNat none
        generalize est : D.s.getD nj.toNat 0 = sj at *
        have est' := Lib.hid est; clear est
        go_still_tail 17, (by kernel_rfl)
        change wpList _ _ _ _ _ w4.drew
        have h2 := h2.grown (grown_drew w4 none) (by simp)
        have q2 := grown_trans q2 (grown_drew w4 (some b))
        have f6 : w4.drew.frozen? ⟨b, ni.toNat, none⟩ = false := f6
        have c6 : w4.drew.cell? ⟨b, ni.toNat, none⟩ = some (.int .u8 (si.toNat : Int)) := c6
        clear c4 c5 c7
        generalize w4.drew = w5 at *
        go_upto_region 13 with fail
        have h3 := h2.setS ni.toNat hi sj
        have q3 : wr.grownBy (w5.setCell ⟨b, ni.toNat, none⟩ (.int .u8 (sj.toNat : Int))) (some b) := grown_trans q2 grown_set
        clear c6 f6 h2 q2
        generalize w5.setCell ⟨b, ni.toNat, none⟩ (.int .u8 (sj.toNat : Int)) = w6 at *
        have c5 : w6.cell? ⟨b, 257, none⟩ = some (.int .i64 (nj.toNat : Int)) := h3.j
        have c7 : w6.cell? ⟨b, nj.toNat, none⟩ = some (.int .u8 (((D.s.set ni.toNat sj).getD nj.toNat 0).toNat : Int)) := h3.at _ hj
        have f7 := h3.free nj.toNat none
        generalize (D.s.set ni.toNat sj).getD nj.toNat 0 = old at *
        go_still_tail 9, (by kernel_rfl)
        change wpList _ _ _ _ _ w6.drew
        have h3 := h3.grown (grown_drew w6 none) (by simp)
        have q3 := grown_trans q3 (grown_drew w6 (some b))
        have f7 : w6.drew.frozen? ⟨b, nj.toNat, none⟩ = false := f7
        have c7 : w6.drew.cell? ⟨b, nj.toNat, none⟩ = some (.int .u8 (old.toNat : Int)) := c7
        clear c5
        generalize w6.drew = w7 at *
        go_upto_region 14 with fail
        have h4 := h3.setS nj.toNat hj si
        have q4 : wr.grownBy (w7.setCell ⟨b, nj.toNat, none⟩ (.int .u8 (si.toNat : Int))) (some b) := grown_trans q3 grown_set
        clear c7 f7 h3 q3
        generalize w7.setCell ⟨b, nj.toNat, none⟩ (.int .u8 (si.toNat : Int)) = w8 at *
        have eE : ({ D with s := (D.s.set ni.toNat sj).set nj.toNat si, i := ni, j := nj, off := D.off + 1 } : Cph) = D.nx := by
          simp only [Cph.nx, hs, Bool.false_eq_true, if_false, swp, ei'.out, es'.out, ej'.out, est'.out]
        have eo : D.out x = x ^^^ D.nx.key := by simp [Cph.out, hs]
        obtain ⟨sE, hsE⟩ : ∃ sE, (D.s.set ni.toNat sj).set nj.toNat si = sE := ⟨_, rfl⟩
        have eK : D.nx.key = sE.getD (sE.getD ni.toNat 0 + sE.getD nj.toNat 0).toNat 0 := by rw [← eE, ← hsE]; rfl
        have h4 : RC w8 b { D with s := sE, i := ni, j := nj } := by rw [← hsE]; exact h4
        rw [hsE] at eE
        rw [eK] at eo
        clear hsE eK ei' es' ej' est'
        have ho8 := own_grown ho q4 hblt
        have hg8 := grown_trans hg q4
        have gx : w8.cell? ⟨ba, oa + k, none⟩ = some (.int .u8 (x.toNat : Int)) := q4.cell g1 (by simpa using hba)
        have hs8 : w.heap.size ≤ w8.heap.size := hg8.size
        clear ho g1 q4 hg hsz
        obtain ⟨p, hp⟩ : ∃ p, sE.getD ni.toNat 0 = p := ⟨_, rfl⟩
        obtain ⟨q, hq⟩ : ∃ q, sE.getD nj.toNat 0 = q := ⟨_, rfl⟩
        rw [hp, hq] at eo
        have rZ : ((p.toNat : Int) + (q.toNat : Int)) % 256 = ((p + q).toNat : Int) := by rw [UInt8.toNat_add]; omega
        have rT := tmod_u8 p q
        have bp := p.toNat_lt
        have bq := q.toNat_lt
        have rW : IntKind.i64.wrap ((p.toNat : Int) + (q.toNat : Int)) = (p.toNat : Int) + (q.toNat : Int) := by rw [IntWalk.i64_left]; exact IntWalk.wrap64_in _ (by omega)
        have rP : IntKind.i64.wrap (p.toNat : Int) = (p.toNat : Int) := by rw [IntWalk.i64_left]; exact IntWalk.wrap64_in _ (by omega)
        have rQ : IntKind.i64.wrap (q.toNat : Int) = (q.toNat : Int) := by rw [IntWalk.i64_left]; exact IntWalk.wrap64_in _ (by omega)
        generalize p + q = z at *
        have rX : IntKind.i64.wrap (z.toNat : Int) = (z.toNat : Int) := by rw [IntWalk.i64_left]; exact IntWalk.wrap64_in _ (by have := z.toNat_lt; omega)
        obtain ⟨r, hr⟩ : ∃ r, sE.getD z.toNat 0 = r := ⟨_, rfl⟩
        rw [hr] at eo
        have bz : (z.toNat : Int) < 256 := by have := z.toNat_lt; omega
        have hxr := u8_xor_nat _ _ x.toNat_lt r.toNat_lt
        have hS : ∀ W, RC W b { D with s := sE, i := ni, j := nj } → W.cell? ⟨ba, oa + k, none⟩ = some (.int .u8 (x.toNat : Int)) →
            W.cell? ⟨b, 256, none⟩ = some (.int .i64 (ni.toNat : Int)) ∧ W.cell? ⟨b, 257, none⟩ = some (.int .i64 (nj.toNat : Int)) ∧ W.cell? ⟨b, ni.toNat, none⟩ = some (.int .u8 (p.toNat : Int)) ∧ W.cell? ⟨b, nj.toNat, none⟩ = some (.int .u8 (q.toNat : Int)) ∧ W.cell? ⟨b, z.toNat, none⟩ = some (.int .u8 (r.toNat : Int)) ∧ W.cell? ⟨ba, oa + k, none⟩ = some (.int .u8 (x.toNat : Int)) := by
          intro W hW hx
          refine ⟨hW.i, hW.j, ?_, ?_, ?_, hx⟩
          · rw [← hp]; exact hW.at _ hi
          · rw [← hq]; exact hW.at _ hj
          · rw [← hr]; exact hW.at _ (by omega)
        have hba8 := World.block_lt_of_cell? _ _ gx
        have hb8 := h4.lt
        have k0 := hS w8.drew (h4.grown (grown_drew w8 none) (by simp)) gx
        have k1 := fun o => hS (w8.drew.alloc o) ((h4.grown (grown_drew w8 none) (by simp)).below (below_alloc (Below.refl _ _) o (Nat.le_refl _)) hb8) ((grown_below (below_alloc (Below.refl w8.drew.heap.size w8.drew) o (Nat.le_refl _)) none).cell (show w8.drew.cell? ⟨ba, oa + k, none⟩ = _ from gx) (by simp))
        clear hp hq hr
        have hk2 := fun W (v : Value) (hv : ∀ m, v.ownBlock = some m → m ≠ b ∧ m ≠ ba) (hw : w8.drew.grownBy W v.ownBlock) => hS W ((h4.grown (grown_drew w8 none) (by simp)).grown hw (fun e => (hv b e.symm).1 rfl)) (hw.cell (show w8.drew.cell? ⟨ba, oa + k, none⟩ = _ from gx) (fun e => (hv ba e.symm).2 rfl))
        have hbaw : ba < w.heap.size := hB.blk (by omega) ⟨ba, oa, none⟩ rfl
        have hvb : ∀ m, u5.ownBlock = some m → m ≠ b ∧ m ≠ ba := fun m hm => by have := (ho8.lt m hm).1; omega
        have ho8d : w8.drew.ownsRow w.heap.size 5 1 u5 k O := own_below ho8 (Below.refl w8.heap.size w8).drew
        have hk2' := Lib.hid hk2
        clear hk2 hS hs
        go_region_held3 (fun W => W.cell? ⟨b, 256, none⟩ = some (.int .i64 (ni.toNat : Int)) ∧ W.cell? ⟨b, 257, none⟩ = some (.int .i64 (nj.toNat : Int)) ∧ W.cell? ⟨b, ni.toNat, none⟩ = some (.int .u8 (p.toNat : Int)) ∧ W.cell? ⟨b, nj.toNat, none⟩ = some (.int .u8 (q.toNat : Int)) ∧ W.cell? ⟨b, z.toNat, none⟩ = some (.int .u8 (r.toNat : Int)) ∧ W.cell? ⟨ba, oa + k, none⟩ = some (.int .u8 (x.toNat : Int))) (first | exact k0 | exact k1 _ | exact k2) (first | (refine step_app1 rfl _ _ 22 (by rfl) w.heap.size 5 i0 _ 1 Try.underlying22 hi'.out hz0 hz1 hz2 rfl u5 k O (by rfl) ho8d (.int .u8 ((x.toNat ^^^ r.toNat : Nat) : Int)) rfl (by rfl) (by unfold maxLen; omega) (by omega) hs8 ?_; intro v' w' ho' hg'; have k2 := hk2'.out w' _ hvb hg'))
        have h5 := (h4.grown (grown_drew w8 none) (by simp)).grown hg' (fun e => (hvb b e.symm).1 rfl)
        have g5 : w.grownBy w' (some b) := grown_over (grown_trans hg8 (grown_drew w8 (some b))) ho8d hg'
        have c5 := h5.off
        have f5 := h5.free 258 none
        have h6 : RC (w'.setCell ⟨b, 258, none⟩ (.int .i64 ((D.off : Int) + 1))) b D.nx := by rw [← eE]; exact h5.setOff (D.off + 1)
        have ho6 := own_grown ho' (grown_set (w := w') (b := b) (o := 258) (v := .int .i64 ((D.off : Int) + 1))) hblt
        have g6 : w.grownBy (w'.setCell ⟨b, 258, none⟩ (.int .i64 ((D.off : Int) + 1))) (some b) := grown_trans g5 grown_set
        have eo' := Lib.hid eo
        clear k0 k1 k2 hk2' h4 ho8 ho8d h5 g5 ho' hg' eE eo gx rT rW rP rQ rX rZ
        go_wp2_with fail
        go_roundw
        case rel => exact ⟨k + 1, by omega, by go_num, own_congr ho6 rfl (by rw [hstep'.out, eo'.out]; simp [bv]), by rw [hnx'.out]; exact h6, g6⟩
        case measure => simp [intOf]; omega
    · obtain rfl : k = n := by omega
      rw [List.take_of_length_le (by omega)] at ho
      go_wp2_with fail
      go_ret
      exact ⟨_, rfl, ho, hCk, hg⟩
end Go.Proofs.Ytokfophpjkglmaa
