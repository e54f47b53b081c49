/-
  The walk of what all statements of layer 1 ask first. No conditions.
-/
import Derived.Test.YtdfoimgckahjpaaBitsPut
import Derived.Test.YtdfoimgckahjpaaBitsRd2
namespace Go.Proofs.Ytdfoimgckahjpaa
open Go.RowKit
theorem aw_bytes : packB true ([] ++ numBits true 5 3 3 ++ numBits true 1 2 2) = [168] := by decide +kernel
theorem aw_num : num true (fun j => bitAt true [168] (0 + j)) 3 3 = 5 := by decide +kernel
set_option maxHeartbeats 400000 in
theorem awake_any (w : World) :
    Calls Try.prog 15 #[] w fun e w' => e = .returned (.bool true) ∧ Below w.heap.size w w' := by
  go_enter Try.func15, Try.ntmps15
  go_wp2_with fail
  refine (new_writer true w).mono ?_
  rintro e w1 ⟨rfl, hW1, hb1⟩
  go_wp2_with fail
  refine (put_yes hW1 5 3 (by decide) (by decide) hb1.size (by decide)).mono ?_
  rintro e w2 ⟨v2, rfl, hW2, hB2, -⟩
  have hb2 := below_frame hb1 hB2 (fun k _ hk => (hW1.foot (Nat.le_refl _) k hk).1) hb1.size
  clear hW1 hB2
  go_wp2_with fail
  refine (put_yes hW2 1 2 (by decide) (by decide) hb2.size (by decide)).mono ?_
  rintro e w3 ⟨v3, rfl, hW3, hB3, -⟩
  have hb3 := below_frame hb2 hB3 (fun k _ hk => (hW2.foot (Nat.le_refl _) k hk).1) hb2.size
  clear hW2 hB3
  go_wp2_with fail
  have hwb := wbytes_any hW3
  rw [aw_bytes] at hwb
  refine hwb.mono ?_
  rintro e w4 ⟨a4, c4, rfl, ho4, hb4⟩
  have hB4 := own_bts ho4 (by decide)
  have hb4 := hb3.trans (hb4.mono hb3.size)
  obtain ⟨ba, oa, rfl, hcl⟩ := hB4.addr (by decide)
  have g0 := hcl 0 (by decide)
  clear hcl hwb hW3 ho4
  go_wp2_with fail
  refine (new_reader _ _ _ [168] true _ hB4 (by decide)).mono ?_
  rintro e w5 ⟨b5, a5, c5, rfl, hR5, hl5, -, hb5⟩
  have g0 : w5.cell? ⟨ba, oa, none⟩ = some (.int .u8 168) := (hB4.get hb5 (k := 0) (by decide))
  have hb5 := hb4.trans (hb5.mono hb4.size)
  go_wp2_with fail
  have htk := take_yes hR5 3 (by decide) (by decide)
  rw [aw_num] at htk
  refine htk.mono ?_
  rintro e w6 ⟨rfl, hR6, hg6⟩
  have hb6 := below_grow hb5 hg6 hb5.size (Nat.le_trans hb4.size hl5)
  clear htk hR5 hB4 g0
  go_wp2_with fail
  refine (left_any hR6).mono ?_
  rintro e w7 ⟨rfl, m, rfl⟩
  have hb7 := below_drewN hb6 m
  go_wp2_with fail
  go_ret
  exact ⟨ret_bool (by simp), hb7⟩
end Go.Proofs.Ytdfoimgckahjpaa
