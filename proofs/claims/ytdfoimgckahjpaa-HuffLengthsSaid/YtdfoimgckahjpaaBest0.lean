/-
  best: what its walk needs. No conditions.
-/
import Derived.Test.YtdfoimgckahjpaaNds
import Derived.Test.YtdfoimgckahjpaaHuffLens
import Derived.Deep.DeepCutAuto
namespace Go.Proofs.Ytdfoimgckahjpaa
open Go.RowKit
/-- a slice's length -/
def lenV : Value → Nat
  | .slice _ n _ => n
  | _ => 0
theorem own_lenV {w : World} {B E size n : Nat} {v : Value} {xs : List Value} (h : w.ownsRow B E size v n xs) : lenV v = n := by
  rcases h.2 with ⟨rfl, h0⟩ | ⟨g, cap, cur, rfl, _⟩
  · exact h0.symm
  · rfl
theorem own_formN {w : World} {B E size n : Nat} {v : Value} {xs : List Value} (h : w.ownsRow B E size v n xs) : ∃ a c, v = .slice a n c := by
  rcases h.2 with ⟨rfl, h0⟩ | ⟨g, cap, cur, rfl, _⟩
  · exact ⟨none, 0, by rw [h0]⟩
  · exact ⟨_, cap, rfl⟩
theorem own_formP {w : World} {B n : Nat} {v : Value} {xs : List Value} (h : w.ownsRow B 96 2 v n xs) (h0 : 0 < n) : ∃ q c cur, v = .slice (some ⟨q, 0, none⟩) n c ∧ n ≤ c ∧ c ≤ 9223372036854775807 ∧ B ≤ q ∧ Blk w q cur 96 ∧ ∀ j u, xs[j]? = some u → w.cell? ⟨q, j, none⟩ = some u := by
  rcases h.2 with ⟨rfl, h1⟩ | ⟨g, cap, cur, rfl, hB, hh, h1, h2, h3, h4⟩
  · omega
  · unfold maxLen at h2
    refine ⟨g, cap, cur, rfl, h1, h2, hB, hh, fun j u hj => ?_⟩
    rw [Blk.cell (show Blk w g cur 96 from hh)]
    rw [← h4, List.getElem?_take] at hj
    split at hj
    · simpa using hj
    · cases hj
/-- own rows of two types lie apart -/
theorem own_own_ne {w : World} {B E s n : Nat} {v : Value} {xs : List Value} {B2 E2 s2 n2 : Nat} {v2 : Value} {ys : List Value} (h : w.ownsRow B E s v n xs) (h2 : w.ownsRow B2 E2 s2 v2 n2 ys) (hT : E ≠ E2) : ∀ k, v.ownBlock = some k → ¬ v2.ownBlock = some k := fun k hk e => by
  rcases h2.2 with ⟨rfl, _⟩ | ⟨g, cap, cur, rfl, _, hh, _⟩
  · simp [Value.ownBlock] at e
  · have e3 : g = k := by simpa [Value.ownBlock] using e
    subst e3
    exact own_blk_ne h hh hT hk
theorem Nds.grown {w w' : World} {B B2 n : Nat} {u : Value} {ys : List Value} {ns : List Nd} {xs : List Value} (h : Nds w B xs ns) (ho : w.ownsRow B2 96 2 u n ys) (hg : w.grownBy w' u.ownBlock) : Nds w' B xs ns :=
  h.map fun _ _ k => Nums.but k (ButOf.of_grown (K := fun b => u.ownBlock = some b) hg (fun _ e => e)) (own_own_ne k ho (by decide))
theorem Nums.grown {w w' : World} {B B2 n : Nat} {u : Value} {ys : List Value} {v : Value} {l : List Nat} (h : Nums w B v l) (ho : w.ownsRow B2 96 2 u n ys) (hg : w.grownBy w' u.ownBlock) : Nums w' B v l :=
  h.but (ButOf.of_grown (K := fun b => u.ownBlock = some b) hg (fun _ e => e)) (own_own_ne h ho (by decide))
theorem nodes0_snoc (cs : Nat → Nat) (Z : List Nat) {k : Nat} (h : k < Z.length) : nodes0 cs (Z.take (k + 1)) = nodes0 cs (Z.take k) ++ [(cs (Z.getD k 0), [Z.getD k 0])] := by
  rw [List.take_succ_eq_append_getElem h, List.getD_eq_getElem?_getD, List.getElem?_eq_getElem h]
  unfold nodes0
  rw [List.map_append]; rfl
theorem take_snoc_n {l : List Nat} {k : Nat} (h : k < l.length) : l.take (k + 1) = l.take k ++ [l.getD k 0] := by
  rw [List.take_succ_eq_append_getElem h, List.getD_eq_getElem?_getD, List.getElem?_eq_getElem h]; rfl
theorem nodes0_length (cs : Nat → Nat) (Z : List Nat) : (nodes0 cs Z).length = Z.length := by simp [nodes0]
/-- the two new blocks of a node that is appended -/
theorem nd_new {w W : World} {z x : Nat} (hw : Below w.heap.size w W) : Nums ((W.alloc (.cells #[.int .i64 (z : Nat)] 3)).alloc (.cells #[.int .i64 (x : Nat), .slice (some ⟨W.heap.size, 0, none⟩) 1 1] 96)) w.heap.size (.slice (some ⟨W.heap.size, 0, none⟩) 1 1) [z] ∧
    Blk ((W.alloc (.cells #[.int .i64 (z : Nat)] 3)).alloc (.cells #[.int .i64 (x : Nat), .slice (some ⟨W.heap.size, 0, none⟩) 1 1] 96)) (W.heap.size + 1) #[.int .i64 (x : Nat), .slice (some ⟨W.heap.size, 0, none⟩) 1 1] 96 := by
  have n1 := Blk.new W #[.int .i64 (z : Nat)] 3
  have n2 := Blk.new (W.alloc (.cells #[.int .i64 (z : Nat)] 3)) #[.int .i64 (x : Nat), .slice (some ⟨W.heap.size, 0, none⟩) 1 1] 96
  rw [alloc_size] at n2
  have n3 := n1.below (below_alloc (Below.refl _ _) (.cells #[.int .i64 (x : Nat), .slice (some ⟨W.heap.size, 0, none⟩) 1 1] 96) (Nat.le_refl _)) n1.lt
  exact ⟨Nums.of_blk (l := [z]) n3 hw.size rfl (by omega), n2⟩
theorem two_new (w : World) (x y : Array Value) (T T' : TypeId) : Blk ((w.alloc (.cells x T)).alloc (.cells y T')).drew w.heap.size x T ∧ Blk ((w.alloc (.cells x T)).alloc (.cells y T')).drew (w.heap.size + 1) y T' ∧ Below w.heap.size w ((w.alloc (.cells x T)).alloc (.cells y T')).drew ∧ ((w.alloc (.cells x T)).alloc (.cells y T')).drew.heap.size = w.heap.size + 2 := by
  have n1 := Blk.new w x T
  have n2 := Blk.new (w.alloc (.cells x T)) y T'
  rw [alloc_size] at n2
  refine ⟨n1.below (below_alloc (Below.refl (w.alloc (.cells x T)).heap.size (w.alloc (.cells x T))) (.cells y T') (Nat.le_refl _)).drew n1.lt, n2, (below_alloc (below_alloc (Below.refl _ _) _ (Nat.le_refl _)) _ (Nat.le_refl _)).drew, ?_⟩
  show ((w.alloc (.cells x T)).alloc (.cells y T')).heap.size = w.heap.size + 2
  rw [alloc_size, alloc_size]
theorem both_new {w w5 : World} {s : Nat} {sv : Option Addr} {sc : Nat} {S : List Nat} (hb : Below w.heap.size w w5) (hN : Nums w5 w.heap.size (.slice sv S.length sc) S) :
    Blk (w5.alloc (.cells #[.int .i64 (s : Nat), .slice sv S.length sc] 96)) w5.heap.size #[.int .i64 (s : Nat), .slice sv S.length sc] 96 ∧ Nums (w5.alloc (.cells #[.int .i64 (s : Nat), .slice sv S.length sc] 96)) w.heap.size (.slice sv S.length sc) S ∧ w.heap.size ≤ w5.heap.size ∧
      Below w.heap.size w (w5.alloc (.cells #[.int .i64 (s : Nat), .slice sv S.length sc] 96)) :=
  ⟨Blk.new _ _ _, hN.below (below_alloc (Below.refl _ _) _ (Nat.le_refl _)), hb.size, below_alloc hb _ (Nat.le_refl _)⟩
theorem both_set {w w5 : World} {s tb : Nat} {sv : Option Addr} {sc : Nat} {S : List Nat} (hb : Below w.heap.size w w5) (hN : Nums w5 w.heap.size (.slice sv S.length sc) S) (hT : Blk w5 tb #[.int .i64 0, .slice none 0 0] 96) (ht : w.heap.size ≤ tb) :
    Blk ((w5.setCell ⟨tb, 0, none⟩ (.int .i64 (s : Nat))).setCell ⟨tb, 1, none⟩ (.slice sv S.length sc)) tb #[.int .i64 (s : Nat), .slice sv S.length sc] 96 ∧ Nums ((w5.setCell ⟨tb, 0, none⟩ (.int .i64 (s : Nat))).setCell ⟨tb, 1, none⟩ (.slice sv S.length sc)) w.heap.size (.slice sv S.length sc) S ∧
      Below w.heap.size w ((w5.setCell ⟨tb, 0, none⟩ (.int .i64 (s : Nat))).setCell ⟨tb, 1, none⟩ (.slice sv S.length sc)) := by
  refine ⟨(hT.set 0 _).set 1 _, hN.but (K := fun k => k = tb) (((ButOf.refl (fun k => k = tb) w5).set (b := tb) (o := 0) _ (.inl rfl)).set (b := tb) (o := 1) _ (.inl rfl)) (fun k hk e => own_blk_ne hN hT (by decide) (by rw [hk, e])), (hb.setCell (p := ⟨tb, 0, none⟩) ht _).setCell (p := ⟨tb, 1, none⟩) ht _⟩
theorem bump_next {S O : List Nat} {j : Nat} (hj : j < S.length) : bump O (S.take (j + 1)) = (bump O (S.take j)).set (S.getD j 0) ((bump O (S.take j)).getD (S.getD j 0) 0 + 1) := by
  rw [take_snoc_n hj, bump_append]; rfl
/-- what stands while a place is looked for -/
structure Place (w wr : World) (Bo g n c cb s : Nat) (sv : Option Addr) (sc : Nat) (aq : Option Addr) (rl cq : Nat) (S O : List Nat) (ys : List Value) (r : List Nd) : Prop where
  both : Blk wr cb #[.int .i64 (s : Nat), .slice sv S.length sc] 96
  syms : Nums wr w.heap.size (.slice sv S.length sc) S
  cs : Cs wr aq rl cq ys
  nds : Nds wr w.heap.size ys r
  out : Nums wr Bo (.slice (some ⟨g, 0, none⟩) n c) O
  but : ButOf (fun x => x = g) w wr
section
variable {w wr : World} {Bo g n c cb s : Nat} {sv : Option Addr} {sc : Nat} {aq : Option Addr} {rl cq : Nat} {S O : List Nat} {ys : List Value} {r : List Nd}
theorem Place.below (h : Place w wr Bo g n c cb s sv sc aq rl cq S O ys r) {w' : World} (hb : Below wr.heap.size wr w') : Place w w' Bo g n c cb s sv sc aq rl cq S O ys r :=
  ⟨h.both.below hb h.both.lt, h.syms.below hb, h.cs.below hb (Nat.le_refl _), h.nds.below hb, h.out.below hb, h.but.trans (ButOf.of_below hb)⟩
theorem Place.at_ (h : Place w wr Bo g n c cb s sv sc aq rl cq S O ys r) {i : Nat} (hi : i < r.length) : ∃ b o, aq = some ⟨b, o, none⟩ ∧ wr.cell? ⟨b, o + i * 2, none⟩ = some (.int .i64 (ndc r i : Nat)) := h.cs.cell _ _ (h.nds.count hi)
/-- where the node is put in -/
theorem Place.done (h : Place w wr Bo g n c cb s sv sc aq rl cq S O ys r) {w' : World} (hb : Below wr.heap.size wr w') {i : Nat} (hi : i ≤ r.length) (h1 : ∀ j, j < i → ndc r j ≤ s) (h2 : i = r.length ∨ s < ndc r i) :
    Nds w' w.heap.size (ys.take (i * 2) ++ [.int .i64 (s : Nat), .slice sv S.length sc] ++ ys.drop (i * 2)) (insN (s, S) r) := by
  have k := h.below hb
  have e : insN (s, S) r = r.take i ++ [(s, S)] ++ r.drop i := by rw [insN_at (x := (s, S)) hi h1 h2, List.append_assoc]; rfl
  rw [e]
  exact ((k.nds.take i).append (ys := [.int .i64 (s : Nat), .slice sv S.length sc]) (ms := [(s, S)]) ⟨rfl, k.syms, trivial⟩).append (k.nds.drop i)
/-- the row, cut -/
theorem Place.clone (h : Place w wr Bo g n c cb s sv sc aq rl cq S O ys r) (hrl : rl ≤ 320) {W : World} (hb : Below wr.heap.size wr W) :
    Calls Try.prog 68 #[.slice aq rl cq] W fun e w' => ∃ av cv, e = .returned (.slice av rl cv) ∧ w'.ownsRow W.heap.size 96 2 (.slice av rl cv) rl ys ∧ Below W.heap.size W w' :=
  (cloneN_any (h.cs.below hb (Nat.le_refl _)) (by omega)).mono fun e w' ⟨v, e1, e2, e3⟩ => by
    obtain ⟨av, cv, rfl⟩ := own_formN e2
    exact ⟨av, cv, e1, e2, e3⟩
theorem Place.ins (h : Place w wr Bo g n c cb s sv sc aq rl cq S O ys r) (hrl : rl ≤ 320) {W : World} (hb : Below wr.heap.size wr W) {i vb cv : Nat} {av : Option Addr} (hi : i ≤ rl) (hv : W.ownsRow wr.heap.size 96 2 (.slice av rl cv) rl ys) (hq : Blk W vb #[.int .i64 (s : Nat), .slice sv S.length sc] 96) (hne : (Value.slice av rl cv).ownBlock ≠ some vb) :
    Calls Try.prog 67 #[.slice av rl cv, .int .i64 (i : Nat), .slice (some ⟨vb, 0, none⟩) 1 1] W fun e w' => ∃ a2 c2, e = .returned (.slice a2 (rl + 1) c2) ∧ w'.ownsRow w.heap.size 96 2 (.slice a2 (rl + 1) c2) (rl + 1) (ys.take (i * 2) ++ [.int .i64 (s : Nat), .slice sv S.length sc] ++ ys.drop (i * 2)) ∧ Below wr.heap.size wr w' :=
  (insN_any hv h.cs.one (qs := [.int .i64 (s : Nat), .slice sv S.length sc]) hq rfl (fun u hu => by rcases List.mem_cons.1 hu with rfl | hu; rfl; rcases List.mem_cons.1 hu with rfl | hu; rfl; cases hu) (by omega) hi hb.size hne).mono fun e w' ⟨v, e1, e2, e3⟩ => by
    obtain ⟨a2, c2, rfl⟩ := own_formN e2
    exact ⟨a2, c2, e1, own_mono e2 h.but.size, hb.trans (e3.mono (Nat.le_refl _))⟩
theorem Place.clone2 (h : Place w wr Bo g n c cb s sv sc aq rl cq S O ys r) (hrl : rl ≤ 320) (o : Obj) :
    Calls Try.prog 68 #[.slice aq rl cq] (wr.alloc o).drew fun e w' => ∃ av cv, e = .returned (.slice av rl cv) ∧ w'.ownsRow (wr.alloc o).heap.size 96 2 (.slice av rl cv) rl ys ∧ Below (wr.alloc o).heap.size (wr.alloc o) w' ∧ Below wr.heap.size wr w' :=
  (h.clone hrl (below_alloc (Below.refl wr.heap.size wr) o (Nat.le_refl _)).drew).mono fun e w' ⟨av, cv, e1, e2, e3⟩ =>
    ⟨av, cv, e1, e2, below_of_drew e3, (below_alloc (Below.refl wr.heap.size wr) o (Nat.le_refl _)).trans ((below_of_drew e3).mono (by show wr.heap.size ≤ (wr.alloc o).heap.size; rw [alloc_size]; exact Nat.le_succ _))⟩
/-- the node's row of one, made behind the clone -/
theorem Place.ins1 (h : Place w wr Bo g n c cb s sv sc aq rl cq S O ys r) (hrl : rl ≤ 320) {i : Nat} (hi : i ≤ rl) {w9 : World} {av : Option Addr} {cv : Nat} (hv : w9.ownsRow wr.heap.size 96 2 (.slice av rl cv) rl ys) (hb : Below wr.heap.size wr w9) :
    Calls Try.prog 67 #[.slice av rl cv, .int .i64 (i : Nat), .slice (some ⟨w9.heap.size, 0, none⟩) 1 1] (w9.alloc (.cells #[.int .i64 (s : Nat), .slice sv S.length sc] 96)) fun e w' => ∃ a2 c2, e = .returned (.slice a2 (rl + 1) c2) ∧ w'.ownsRow w.heap.size 96 2 (.slice a2 (rl + 1) c2) (rl + 1) (ys.take (i * 2) ++ [.int .i64 (s : Nat), .slice sv S.length sc] ++ ys.drop (i * 2)) ∧ Below wr.heap.size wr w' :=
  h.ins hrl (below_alloc hb _ (Nat.le_refl _)) hi (own_below hv (below_alloc (Below.refl _ _) _ (Nat.le_refl _))) (Blk.new _ _ _) (fun e => by have := (World.ownsRow.lt hv _ e).2; omega)
/-- and ahead of it -/
theorem Place.ins2 (h : Place w wr Bo g n c cb s sv sc aq rl cq S O ys r) (hrl : rl ≤ 320) {i : Nat} (hi : i ≤ rl) {w9 : World} {av : Option Addr} {cv : Nat} (hv : w9.ownsRow (wr.alloc (.cells #[.int .i64 (s : Nat), .slice sv S.length sc] 96)).heap.size 96 2 (.slice av rl cv) rl ys) (hb : Below (wr.alloc (.cells #[.int .i64 (s : Nat), .slice sv S.length sc] 96)).heap.size (wr.alloc (.cells #[.int .i64 (s : Nat), .slice sv S.length sc] 96)) w9) :
    Calls Try.prog 67 #[.slice av rl cv, .int .i64 (i : Nat), .slice (some ⟨wr.heap.size, 0, none⟩) 1 1] w9 fun e w' => ∃ a2 c2, e = .returned (.slice a2 (rl + 1) c2) ∧ w'.ownsRow w.heap.size 96 2 (.slice a2 (rl + 1) c2) (rl + 1) (ys.take (i * 2) ++ [.int .i64 (s : Nat), .slice sv S.length sc] ++ ys.drop (i * 2)) ∧ Below wr.heap.size wr w' := by
  have hs := alloc_size wr (.cells #[.int .i64 (s : Nat), .slice sv S.length sc] 96)
  have n1 := Blk.new wr #[.int .i64 (s : Nat), .slice sv S.length sc] 96
  exact h.ins hrl ((below_alloc (Below.refl _ _) _ (Nat.le_refl _)).trans (hb.mono (by omega))) hi (own_mono hv (by omega)) (n1.below hb n1.lt) (fun e => by have := (World.ownsRow.lt hv _ e).1; omega)
end
/-- what is known of the two rarest -/
theorem Good.two {cs : Nat → Nat} {N n : Nat} {Z O : List Nat} {a b : Nd} {r : List Nd} (h : Good cs N Z (a :: b :: r) O) (hd : Z.Nodup) (hl : Z.length ≤ 320) (hz : ∀ s, s ∈ Z → s < n) (hsm : ∀ s, cs s ≤ 1073741824) :
    a.1 ≤ 343597383680 ∧ b.1 ≤ 343597383680 ∧ (a.2 ++ b.2).Nodup ∧ (∀ s, s ∈ a.2 ++ b.2 → s < n ∧ O.getD s 0 ≤ 320) ∧ a.2.length + b.2.length ≤ 320 ∧ 0 < a.2.length + b.2.length ∧ r.length + 2 ≤ 320 := by
  have hp : (a.2 ++ b.2 ++ r.flatMap Prod.snd).Perm Z := by
    have := h.perm
    simpa [List.flatMap_cons] using this
  have hd2 : (a.2 ++ b.2 ++ r.flatMap Prod.snd).Nodup := hp.nodup_iff.2 hd
  obtain ⟨hab, _, _⟩ := List.nodup_append.1 hd2
  obtain ⟨ha1, ha2, ha3, _⟩ := h.node a (List.mem_cons_self ..)
  obtain ⟨hb1, hb2, hb3, _⟩ := h.node b (List.mem_cons_of_mem _ (List.mem_cons_self ..))
  have hlen := hp.length_eq
  rw [List.length_append, List.length_append] at hlen
  have hsum : ∀ l : List Nat, (l.map cs).sum ≤ l.length * 1073741824 := by
    intro l
    induction l with
    | nil => simp
    | cons x l ih =>
      have := hsm x
      rw [List.map_cons, List.sum_cons, List.length_cons, Nat.add_mul]
      omega
  have hr : ∀ l : List Nd, (∀ x, x ∈ l → 0 < x.2.length) → l.length ≤ (l.flatMap Prod.snd).length := by
    intro l
    induction l with
    | nil => intro _; simp
    | cons x l ih =>
      intro hx
      have h1 := ih (fun y hy => hx y (List.mem_cons_of_mem _ hy))
      have h2 := hx x (List.mem_cons_self ..)
      rw [List.flatMap_cons, List.length_append, List.length_cons]
      omega
  have hr2 := hr r (fun x hx => (h.node x (List.mem_cons_of_mem _ (List.mem_cons_of_mem _ hx))).2.1)
  have h1 := hsum a.2
  have h2 := hsum b.2
  refine ⟨by omega, by omega, hab, fun s hs => ⟨hz s (hp.mem_iff.1 (List.mem_append_left _ hs)), ?_⟩, by omega, by omega, by omega⟩
  rcases List.mem_append.1 hs with e | e
  · have := ha3 s e; omega
  · have := hb3 s e; omega
end Go.Proofs.Ytdfoimgckahjpaa
