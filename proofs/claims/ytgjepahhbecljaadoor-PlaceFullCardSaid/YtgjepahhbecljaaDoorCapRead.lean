/- CanRead, CanWrite, the program's and the reference's. No condition. -/
import Derived.Test.YtgjepahhbecljaaDoorCapValid
namespace Go.Proofs.YtgjepahhbecljaaDoor
open Go Go.RowKit
set_option linter.unusedVariables false
set_option maxRecDepth 100000

def readF (c : CapD) : Bool := decide c.Valid && ((c.kind != 2) && ((c.kind != 6) && (c.kind != 9)))
def writeF (c : CapD) : Bool := decide c.Valid && ((c.kind == 4) || (c.kind == 7))

set_option maxHeartbeats 4000000 in
theorem read_any (c : CapD) (lit : Value) (w : World) (hc : CapV c lit) :
    Calls Tryd.prog 23 #[capV c lit] w fun e w' => e = .returned (.bool (readF c)) ∧ Below w.heap.size w w' := by
  have HVA := hide (fun w => Valid_any c lit w hc)
  obtain ⟨h1, h2, A, k, rfl⟩ := hc
  obtain ⟨CV, HCV⟩ : ∃ x, Hid (capV c (.slice A c.lit.length k) = x) := ⟨_, hide rfl⟩
  rw [HCV.out] at HVA ⊢
  have H1 := hide h1
  have H2 := hide h2
  clear h1 h2
  obtain ⟨v, EV⟩ : ∃ x, Hid (decide c.Valid = x) := ⟨_, hide rfl⟩
  rw [EV.out] at HVA
  obtain ⟨b2, e2⟩ : ∃ b, (c.kind != 2) = b := ⟨_, rfl⟩
  obtain ⟨b6, e6⟩ : ∃ b, (c.kind != 6) = b := ⟨_, rfl⟩
  obtain ⟨b9, e9⟩ : ∃ b, (c.kind != 9) = b := ⟨_, rfl⟩
  have HF := hide (show readF c = (v && (b2 && (b6 && b9))) by rw [readF, EV.out, e2, e6, e9])
  go_enter Tryd.func23, Tryd.ntmps23
  go_wp2_with (first
    | go_skip
    | (refine wpList_cap_new _ rfl (HCV.out.symm) rfl H1.out H2.out rfl ?_; intro w1 hb1 hw1 hs1; have HB := hide hb1; have HW := hide hw1; clear hb1 hw1)
    | (refine wpList_cap_int _ rfl _ rfl rfl HB.out _ rfl ?_)
    | (refine wpList_cap_all _ rfl rfl rfl HB.out ?_; rw [HCV.out])
    | (go_at_call 21; refine (HVA.out _).mono ?_; rintro e w2 ⟨rfl, hb2⟩; have hs2 := hb2.size; replace HB := hide (HB.out.below hb2 HB.out.lt); replace HW := hide (HW.out.trans (hb2.mono (by omega))); clear hb2))
  all_goals go_ret
  all_goals refine ⟨?_, HW.out⟩
  all_goals rw [HF.out]
  all_goals refine congrArg Ending.returned (congrArg Value.bool ?_)
  all_goals simp [*]

set_option maxHeartbeats 4000000 in
theorem write_any (c : CapD) (lit : Value) (w : World) (hc : CapV c lit) :
    Calls Tryd.prog 25 #[capV c lit] w fun e w' => e = .returned (.bool (writeF c)) ∧ Below w.heap.size w w' := by
  have HVA := hide (fun w => Valid_any c lit w hc)
  obtain ⟨h1, h2, A, k, rfl⟩ := hc
  obtain ⟨CV, HCV⟩ : ∃ x, Hid (capV c (.slice A c.lit.length k) = x) := ⟨_, hide rfl⟩
  rw [HCV.out] at HVA ⊢
  have H1 := hide h1
  have H2 := hide h2
  clear h1 h2
  obtain ⟨v, EV⟩ : ∃ x, Hid (decide c.Valid = x) := ⟨_, hide rfl⟩
  rw [EV.out] at HVA
  obtain ⟨b4, e4⟩ : ∃ b, (c.kind == 4) = b := ⟨_, rfl⟩
  obtain ⟨b7, e7⟩ : ∃ b, (c.kind == 7) = b := ⟨_, rfl⟩
  have HF := hide (show writeF c = (v && (b4 || b7)) by rw [writeF, EV.out, e4, e7])
  go_enter Tryd.func25, Tryd.ntmps25
  go_wp2_with (first
    | go_skip
    | (refine wpList_cap_new _ rfl (HCV.out.symm) rfl H1.out H2.out rfl ?_; intro w1 hb1 hw1 hs1; have HB := hide hb1; have HW := hide hw1; clear hb1 hw1)
    | (refine wpList_cap_int _ rfl _ rfl rfl HB.out _ rfl ?_)
    | (refine wpList_cap_all _ rfl rfl rfl HB.out ?_; rw [HCV.out])
    | (go_at_call 21; refine (HVA.out _).mono ?_; rintro e w2 ⟨rfl, hb2⟩; have hs2 := hb2.size; replace HB := hide (HB.out.below hb2 HB.out.lt); replace HW := hide (HW.out.trans (hb2.mono (by omega))); clear hb2))
  all_goals go_ret
  all_goals refine ⟨?_, HW.out⟩
  all_goals rw [HF.out]
  all_goals refine congrArg Ending.returned (congrArg Value.bool ?_)
  all_goals simp [*]

set_option maxHeartbeats 4000000 in
theorem read_ref (c : CapD) (lit : Value) (w : World) (hc : CapV c lit) :
    Calls Tryd.prog 24 #[capV c lit] w fun e w' => e = .returned (.bool (readF c)) ∧ Below w.heap.size w w' := by
  have HVA := hide (fun w => Valid_ref c lit w hc)
  obtain ⟨h1, h2, A, k, rfl⟩ := hc
  obtain ⟨CV, HCV⟩ : ∃ x, Hid (capV c (.slice A c.lit.length k) = x) := ⟨_, hide rfl⟩
  rw [HCV.out] at HVA ⊢
  have H1 := hide h1
  have H2 := hide h2
  clear h1 h2
  obtain ⟨v, EV⟩ : ∃ x, Hid (decide c.Valid = x) := ⟨_, hide rfl⟩
  rw [EV.out] at HVA
  obtain ⟨b2, e2⟩ : ∃ b, (c.kind != 2) = b := ⟨_, rfl⟩
  obtain ⟨b6, e6⟩ : ∃ b, (c.kind != 6) = b := ⟨_, rfl⟩
  obtain ⟨b9, e9⟩ : ∃ b, (c.kind != 9) = b := ⟨_, rfl⟩
  have HF := hide (show readF c = (v && (b2 && (b6 && b9))) by rw [readF, EV.out, e2, e6, e9])
  go_enter Tryd.func24, Tryd.ntmps24
  go_wp2_with (first
    | go_skip
    | (refine wpList_cap_new _ rfl (HCV.out.symm) rfl H1.out H2.out rfl ?_; intro w1 hb1 hw1 hs1; have HB := hide hb1; have HW := hide hw1; clear hb1 hw1)
    | (refine wpList_cap_int _ rfl _ rfl rfl HB.out _ rfl ?_)
    | (refine wpList_cap_all _ rfl rfl rfl HB.out ?_; rw [HCV.out])
    | (go_at_call 22; refine (HVA.out _).mono ?_; rintro e w2 ⟨rfl, hb2⟩; have hs2 := hb2.size; replace HB := hide (HB.out.below hb2 HB.out.lt); replace HW := hide (HW.out.trans (hb2.mono (by omega))); clear hb2))
  all_goals go_ret
  all_goals refine ⟨?_, HW.out⟩
  all_goals rw [HF.out]
  all_goals refine congrArg Ending.returned (congrArg Value.bool ?_)
  all_goals simp [*]

set_option maxHeartbeats 4000000 in
theorem write_ref (c : CapD) (lit : Value) (w : World) (hc : CapV c lit) :
    Calls Tryd.prog 26 #[capV c lit] w fun e w' => e = .returned (.bool (writeF c)) ∧ Below w.heap.size w w' := by
  have HVA := hide (fun w => Valid_ref c lit w hc)
  obtain ⟨h1, h2, A, k, rfl⟩ := hc
  obtain ⟨CV, HCV⟩ : ∃ x, Hid (capV c (.slice A c.lit.length k) = x) := ⟨_, hide rfl⟩
  rw [HCV.out] at HVA ⊢
  have H1 := hide h1
  have H2 := hide h2
  clear h1 h2
  obtain ⟨v, EV⟩ : ∃ x, Hid (decide c.Valid = x) := ⟨_, hide rfl⟩
  rw [EV.out] at HVA
  obtain ⟨b4, e4⟩ : ∃ b, (c.kind == 4) = b := ⟨_, rfl⟩
  obtain ⟨b7, e7⟩ : ∃ b, (c.kind == 7) = b := ⟨_, rfl⟩
  have HF := hide (show writeF c = (v && (b4 || b7)) by rw [writeF, EV.out, e4, e7])
  go_enter Tryd.func26, Tryd.ntmps26
  go_wp2_with (first
    | go_skip
    | (refine wpList_cap_new _ rfl (HCV.out.symm) rfl H1.out H2.out rfl ?_; intro w1 hb1 hw1 hs1; have HB := hide hb1; have HW := hide hw1; clear hb1 hw1)
    | (refine wpList_cap_int _ rfl _ rfl rfl HB.out _ rfl ?_)
    | (refine wpList_cap_all _ rfl rfl rfl HB.out ?_; rw [HCV.out])
    | (go_at_call 22; refine (HVA.out _).mono ?_; rintro e w2 ⟨rfl, hb2⟩; have hs2 := hb2.size; replace HB := hide (HB.out.below hb2 HB.out.lt); replace HW := hide (HW.out.trans (hb2.mono (by omega))); clear hb2))
  all_goals go_ret
  all_goals refine ⟨?_, HW.out⟩
  all_goals rw [HF.out]
  all_goals refine congrArg Ending.returned (congrArg Value.bool ?_)
  all_goals simp [*]
end Go.Proofs.YtgjepahhbecljaaDoor
