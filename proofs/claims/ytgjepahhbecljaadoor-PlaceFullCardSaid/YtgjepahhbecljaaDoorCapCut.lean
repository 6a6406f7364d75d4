/- aumbrylaw13.cut: a capability that is short enough to be played. No condition. -/
import Derived.Test.YtgjepahhbecljaaDoorPrint
import Derived.Test.YtgjepahhbecljaaDoorWithin
import Derived.Test.YtgjepahhbecljaaDoorKeep
namespace Go.Proofs.YtgjepahhbecljaaDoor
open Go Go.RowKit
set_option linter.unusedVariables false
set_option maxRecDepth 100000

def cutF (c : CapD) : CapD := { c with lit := c.lit.take 80 }
theorem cutF_len (c : CapD) : (cutF c).lit.length ≤ 80 := by simp [cutF]; omega
set_option maxHeartbeats 4000000 in
theorem cutc_any (c : CapD) (lit : Value) (w : World) (h1 : c.key.length = 16) (h2 : c.fp.length = 32) (B : Nat) (hB : B ≤ w.heap.size) (hl : Bs w B lit c.lit) :
    Calls Tryd.prog 14 #[capV c lit] w fun e w' => ∃ l', e = .returned (capV (cutF c) l') ∧ Bs w' B l' (c.lit.take 80) ∧ Below w.heap.size w w' := by
  have H3 := hide hl.one
  have HL := hide hl
  have H1 := hide h1
  have H2 := hide h2
  clear h1 h2 hl
  obtain ⟨CV, HCV⟩ : ∃ x, Hid (capV c lit = x) := ⟨_, hide rfl⟩
  rw [HCV.out]
  obtain ⟨ZS, HZS⟩ : ∃ x, Hid (c.lit.take 80 = x) := ⟨_, hide rfl⟩
  rw [HZS.out]
  have HCF := hide (show cutF c = { c with lit := ZS } by rw [← HZS.out]; rfl)
  obtain ⟨NN, HNN⟩ : ∃ x, Hid (CapD.none_ = x) := ⟨_, hide rfl⟩
  go_enter Tryd.func14, Tryd.ntmps14
  go_wp2_with (first
    | (refine wpList_cap_new _ rfl (HCV.out.symm) rfl H1.out H2.out H3.out ?_; intro w1 hb1 hw1 hs1; have HB := hide hb1; have HW := hide hw1; clear hb1 hw1)
    | (refine wpList_cap_zero rfl rfl ?_; rw [HNN.out]; intro w2 hb2 hw2 hs2; rw [hs1] at hb2; have HZ := hide hb2; replace HB := hide (HB.out.below hw2 HB.out.lt); replace HW := hide (HW.out.trans (hw2.mono (by omega))); clear hb2 hw2)
    | (refine wpList_cap_lit _ rfl rfl rfl HB.out ?_)
    | (go_at_call 52; refine (cut_bytes lit c.lit 80 _ B (HL.out.below HW.out hB) (by omega) (by omega)).mono ?_; rintro e w3 ⟨l', rfl, hl', rfl⟩; rw [show (80 : Int).toNat = 80 from rfl, HZS.out] at hl'; have HL' := hide hl'; have HX := hide (Below.refl w.heap.size w2); clear hl')
    | (refine wpList_cap_putLit _ _ rfl rfl rfl HB.out l' rfl HL'.out.one ZS ?_; intro w4 hb4 hg4 hs4; replace HB := hide hb4; replace HZ := hide (HZ.out.grown hg4 (by intro h; injection h with h; omega)); replace HW := hide (HW.out.grown hg4 (by omega) (by intro k hk; simp at hk; omega)); replace HX := hide (HX.out.grown hg4 (by omega) (by intro k hk; simp at hk; omega)); clear hb4 hg4) 
    | (refine wpList_cap_all _ rfl rfl rfl HB.out ?_)
    | (refine wpList_cap_putAll _ _ rfl rfl rfl HZ.out { c with lit := ZS } l' rfl H1.out H2.out HL'.out.one ?_; intro w5 hb5 hg5 hs5; have HR := hide hb5; replace HW := hide (HW.out.grown hg5 (by omega) (by intro k hk; simp at hk; omega)); replace HX := hide (HX.out.grown hg5 (by omega) (by intro k hk; simp at hk; omega)); clear hb5 hg5))
  refine bodyPost_ret (v := capV { c with lit := ZS } l') (results_cell_row rfl _ _ (w.heap.size + 1) 28 (capCells { c with lit := ZS } l').toArray (0, 0) _ rfl HR.out.blk Tryd.underlying28 rfl (by rw [List.size_toArray, cc_len l' HR.out.keyL HR.out.fpL]; exact size_cap)) rfl ?_
  exact ⟨l', by rw [HCF.out], HL'.out.below HX.out hB, HW.out⟩
end Go.Proofs.YtgjepahhbecljaaDoor
