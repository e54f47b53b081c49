/-
  The stream of chapter 5 as plain functions on lists of bytes, and what is true of them. No program is in sight. No conditions.
-/
import Derived.Laws.BitsAllLaws
namespace Go.Proofs.Ytokfophpjkglmaa

/-- two places of a row exchanged -/
def swp (s : List UInt8) (i j : Nat) : List UInt8 := (s.set i (s.getD j 0)).set j (s.getD i 0)
theorem swp_length (s : List UInt8) (i j : Nat) : (swp s i j).length = s.length := by simp [swp]

/-- a stream's state -/
structure Cph where
  sym : Bool
  id : Nat
  s : List UInt8
  i : UInt8
  j : UInt8
  off : Nat

def Cph.nx (C : Cph) : Cph :=
  if C.sym then { C with off := C.off + 1 } else
  { C with s := swp C.s (C.i + 1).toNat (C.j + C.s.getD (C.i + 1).toNat 0).toNat, i := C.i + 1, j := C.j + C.s.getD (C.i + 1).toNat 0, off := C.off + 1 }
/-- the byte of the stream, out of the state behind the step -/
def Cph.key (D : Cph) : UInt8 := D.s.getD (D.s.getD D.i.toNat 0 + D.s.getD D.j.toNat 0).toNat 0
def Cph.out (C : Cph) (x : UInt8) : UInt8 := if C.sym then UInt8.ofNat (31 * C.id + 7 * C.off + C.off / 256) else x ^^^ C.nx.key
def Cph.xor : Cph → List UInt8 → List UInt8
  | _, [] => []
  | C, x :: l => C.out x :: C.nx.xor l
def Cph.after : Cph → Nat → Cph
  | C, 0 => C
  | C, n + 1 => C.nx.after n

theorem Cph.nx_len (C : Cph) : C.nx.s.length = C.s.length := by
  unfold Cph.nx; split <;> simp [swp_length]
theorem Cph.nx_sym (C : Cph) : C.nx.sym = C.sym := by unfold Cph.nx; split <;> simp_all
theorem Cph.nx_id (C : Cph) : C.nx.id = C.id := by unfold Cph.nx; split <;> simp_all
theorem Cph.nx_off (C : Cph) : C.nx.off = C.off + 1 := by unfold Cph.nx; split <;> simp_all
theorem Cph.after_len : ∀ (n : Nat) (C : Cph), (C.after n).s.length = C.s.length
  | 0, _ => rfl
  | n + 1, C => by rw [Cph.after, Cph.after_len n, Cph.nx_len]
theorem Cph.after_sym : ∀ (n : Nat) (C : Cph), (C.after n).sym = C.sym
  | 0, _ => rfl
  | n + 1, C => by rw [Cph.after, Cph.after_sym n, Cph.nx_sym]
theorem Cph.after_id : ∀ (n : Nat) (C : Cph), (C.after n).id = C.id
  | 0, _ => rfl
  | n + 1, C => by rw [Cph.after, Cph.after_id n, Cph.nx_id]
theorem Cph.after_off : ∀ (n : Nat) (C : Cph), (C.after n).off = C.off + n
  | 0, _ => rfl
  | n + 1, C => by rw [Cph.after, Cph.after_off n, Cph.nx_off]; omega
theorem Cph.after_snoc : ∀ (n : Nat) (C : Cph), C.after (n + 1) = (C.after n).nx
  | 0, _ => rfl
  | n + 1, C => by rw [Cph.after, Cph.after_snoc n]; rfl
theorem Cph.xor_length : ∀ (l : List UInt8) (C : Cph), (C.xor l).length = l.length
  | [], _ => rfl
  | _ :: l, C => by simp [Cph.xor, Cph.xor_length l]
theorem Cph.xor_append : ∀ (l m : List UInt8) (C : Cph), C.xor (l ++ m) = C.xor l ++ (C.after l.length).xor m
  | [], _, _ => rfl
  | x :: l, m, C => by simp [Cph.xor, Cph.after, Cph.xor_append l m]
theorem Cph.xor_snoc (l : List UInt8) (x : UInt8) (C : Cph) : C.xor (l ++ [x]) = C.xor l ++ [(C.after l.length).out x] := by
  rw [Cph.xor_append]; rfl
theorem Cph.xor_take (l : List UInt8) (k : Nat) (C : Cph) (h : k < l.length) : C.xor (l.take (k + 1)) = C.xor (l.take k) ++ [(C.after k).out (l.getD k 0)] := by
  rw [List.take_succ_eq_append_getElem h, Cph.xor_snoc]
  simp [Nat.min_eq_left (Nat.le_of_lt h), List.getD_eq_getElem?_getD, h]
/-- the true stream undoes itself -/
theorem Cph.xor_xor : ∀ (l : List UInt8) (C : Cph), C.sym = false → C.xor (C.xor l) = l
  | [], _, _ => rfl
  | x :: l, C, h => by
    simp only [Cph.xor]
    rw [Cph.xor_xor l C.nx (by rw [Cph.nx_sym]; exact h)]
    simp only [Cph.out, h, Bool.false_eq_true, if_false]
    rw [UInt8.xor_assoc, UInt8.xor_self, UInt8.xor_zero]
/-- what makes two rows unlike stays -/
theorem Cph.xor_diff : ∀ (l m : List UInt8) (C : Cph), C.sym = false → l.length = m.length → ∀ k, k < l.length →
    (C.xor l).getD k 0 ^^^ (C.xor m).getD k 0 = l.getD k 0 ^^^ m.getD k 0
  | [], _, _, _, _, k, hk => by simp at hk
  | _ :: _, [], _, _, h, _, _ => by simp at h
  | x :: l, y :: m, C, h, hl, k, hk => by
    cases k with
    | zero =>
      simp only [Cph.xor, List.getD_cons_zero, Cph.out, h]
      simp only [Bool.false_eq_true, if_false]
      rw [UInt8.xor_assoc, ← UInt8.xor_assoc C.nx.key, UInt8.xor_comm C.nx.key y, UInt8.xor_assoc, UInt8.xor_self, UInt8.xor_zero]
    | succ k =>
      simp only [Cph.xor, List.getD_cons_succ]
      exact Cph.xor_diff l m C.nx (by rw [Cph.nx_sym]; exact h) (by simpa using hl) k (by simpa using hk)
/-- a term's bytes do not hang on what went in -/
theorem Cph.xor_term : ∀ (l m : List UInt8) (C : Cph), C.sym = true → l.length = m.length → C.xor l = C.xor m
  | [], [], _, _, _ => rfl
  | [], _ :: _, _, _, h => by simp at h
  | _ :: _, [], _, _, h => by simp at h
  | x :: l, y :: m, C, h, hl => by
    simp only [Cph.xor]
    rw [Cph.xor_term l m C.nx (by rw [Cph.nx_sym]; exact h) (by simpa using hl)]
    simp [Cph.out, h]

/-- the key's table, and j, behind k steps -/
def ksa (key : List UInt8) : Nat → List UInt8 × UInt8
  | 0 => ((List.range 256).map UInt8.ofNat, 0)
  | k + 1 => (swp (ksa key k).1 k ((ksa key k).2 + ((ksa key k).1.getD k 0 + key.getD (k % key.length) 0)).toNat, (ksa key k).2 + ((ksa key k).1.getD k 0 + key.getD (k % key.length) 0))
theorem ksa_length (key : List UInt8) : ∀ k, (ksa key k).1.length = 256
  | 0 => by simp [ksa]
  | k + 1 => by simp [ksa, swp_length, ksa_length key k]
def newC (key : List UInt8) : Cph := { sym := false, id := 0, s := (ksa key 256).1, i := 0, j := 0, off := 0 }
def symC (id : Nat) : Cph := { sym := true, id := id, s := List.replicate 256 0, i := 0, j := 0, off := 0 }
theorem rep_len (n : Nat) : (List.replicate n (0 : UInt8)).length = n := List.length_replicate
theorem newC_length (key : List UInt8) : (newC key).s.length = 256 := by simp only [newC, ksa_length]
theorem symC_length (id : Nat) : (symC id).s.length = 256 := by simp only [symC, rep_len]

/-- a key that is said twice -/
theorem ksa_again (key : List UInt8) (hk : 0 < key.length) : ∀ k, ksa (key ++ key) k = ksa key k
  | 0 => rfl
  | k + 1 => by
    have e : (key ++ key).getD (k % (key ++ key).length) 0 = key.getD (k % key.length) 0 := by
      have h1 : k % (key ++ key).length % key.length = k % key.length := by
        rw [List.length_append]
        exact Nat.mod_mod_of_dvd k ⟨2, by omega⟩
      have h2 : k % (key ++ key).length < (key ++ key).length := Nat.mod_lt _ (by simp; omega)
      generalize k % (key ++ key).length = r at *
      rw [← h1]
      simp only [List.getD_eq_getElem?_getD]
      simp only [List.length_append] at h2
      by_cases h : r < key.length
      · rw [List.getElem?_append_left h, Nat.mod_eq_of_lt h]
      · rw [List.getElem?_append_right (by omega), Nat.mod_eq_sub_mod (by omega), Nat.mod_eq_of_lt (by omega)]
    simp only [ksa, ksa_again key hk k, e]
theorem newC_again (key : List UInt8) (hk : 0 < key.length) : newC (key ++ key) = newC key := by
  unfold newC; rw [ksa_again key hk]
end Go.Proofs.Ytokfophpjkglmaa
