/- P1.1: a number as so many bytes: the program's and the reference's. Condition: the library's tables are laid (tied to the program's text). -/
import Derived.Test.YtijhcdmjiclnnaaDoorFrameBytes
import Derived.Test.YtijhcdmjiclnnaaDoorTied
import Derived.Test.YtijhcdmjiclnnaaDoorWakes01
import Derived.Test.YtijhcdmjiclnnaaDoorPut
namespace Go.Proofs.YtijhcdmjiclnnaaDoor.LawCodePuts
open Go Go.RowKit Go.ChangeShapes Go.WideShapes Go.ChangeAt Go.Proofs.YtijhcdmjiclnnaaDoor
set_option linter.unusedVariables false

set_option maxHeartbeats 1000000 in
theorem walk (w : World) (ht : Tab w w.heap.size) (n : Int) (hn : In64 n) (width : Int) (hw : In64 width) :
    Calls Tryd.prog 5 #[.int .i64 n, .int .i64 width] w fun e w' => e = .returned (.bool true) ∧ Below w.heap.size w w' := by
  have HT := hide ht
  clear ht
  obtain ⟨hn1, hn2⟩ := hn
  obtain ⟨hw1, hw2⟩ := hw
  go_enter Tryd.func5, Tryd.ntmps5
  go_wp2_with fail
  refine (Put_any n width w ⟨hn1, hn2⟩ ⟨hw1, hw2⟩).mono ?_
  rintro e w1 ⟨v1, rfl, ho1, hb1⟩
  have HO1 := hide ho1
  have HB1 := hide hb1
  have hz1 := hb1.size
  clear ho1 hb1
  go_wp2_with fail
  refine (Put_ref n width w1 ⟨hn1, hn2⟩ ⟨hw1, hw2⟩).mono ?_
  rintro e w2 ⟨v2, rfl, ho2, hb2⟩
  have HO2 := hide ho2
  have HO1' := hide (HO1.out.keptB hb2)
  have HB2 := hide (HB1.out.trans (hb2.mono hz1))
  have hz2 := hb2.size
  clear ho2 hb2 HO1 HB1
  obtain ⟨R, HR⟩ : ∃ r, Hid (putF n width = r) := ⟨_, hide rfl⟩
  rw [HR.out] at HO2 HO1'
  clear HR
  go_wp2_with fail
  refine (same_bytes _ _ R R w2 w2.heap.size HO1'.out.reads HO2.out.reads (Nat.le_refl _)).mono ?_
  rintro e w3 ⟨rfl, hb3⟩
  rw [decide_eq_true rfl]
  have HB3 := hide (HB2.out.trans (hb3.mono (by omega)))
  have hz3 := hb3.size
  clear hb3
  go_wp2_with fail
  refine (wakes01 w3 ((HT.out.below HB3.out (Nat.le_refl _)).more (by omega))).mono ?_
  rintro e w4 ⟨rfl, hb4⟩
  have HB4 := hide (HB3.out.trans (hb4.mono (by omega)))
  clear hb4
  go_wp2_with fail
  go_ret
  exact ⟨rfl, HB4.out⟩

set_option maxRecDepth 100000 in
theorem lifted (os : Os) (started : os.Started) (H : Type) (enc : TypeId × Value → H) :
    ReturnsInHanded {} Tryd.checked os 5 .any (fun w args => (Rows.codePutsSpec.pre enc Tryd.prog Tryd.f5 [] false w args ∧ laidMetH Tryd.prog laidD w) ∧ sizedMet enc Tryd.prog Tryd.f5 (OpenSpec.ofChange Rows.codePutsSpec) false w args)
      (Rows.codePutsSpec.post enc Tryd.prog Tryd.f5 false true false false) := by
  refine returnsInHanded_of_change_and (C := Tryd.checked) (X := fun w _ => laidMetH Tryd.prog laidD w) (fun _ _ _ hh h => h.of_heap hh) own started (by kernel_rfl) Tryd.func5
    (ChangeSpec.witness_shaped (enc := enc) (C := Tryd.checked) (os := os) (X := fun w _ => laidMetH Tryd.prog laidD w) false (World.doorLaid Tryd.prog doorSteps os) #[.int .i64 0, .int .i64 0] 8 rfl (World.shaped_of_RefB (by kernel_rfl) (by kernel_rfl)) (by kernel_rfl) (by kernel_rfl) (by kernel_rfl) (door_met os _)) ?_
  intro W base args ds gs before hval0 hW _ _ hL _
  have hT := tab_of hL
  have hval : ∀ (j : Nat) t v, Tryd.f5.params[j]? = some t → args[j]? = some v → Value.okWide Tryd.prog W .any base t v := hval0
  have hW' := hW
  obtain ⟨p, q, hA0, hV, rfl, hfz, hnd⟩ := hW
  have hA : DataW.TrodAll enc Tryd.prog W 0 (fun _ => true) true Tryd.f5.params.toList args.toList ds p := hA0
  rw [Tryd.params5] at hA hval
  obtain ⟨v0, vs0, d0, ds0, p0, q0, hargs, rfl, rfl, h0, r0⟩ := trodAll_cons hA
  obtain ⟨v1, vs1, d1, ds1, p1, q1, rfl, rfl, rfl, h1, r1⟩ := trodAll_cons r0
  obtain ⟨rfl, rfl, rfl⟩ := trodAll_nil r1
  obtain rfl : args = #[v0, v1] := by cases args; simp_all
  obtain ⟨rfl, rfl⟩ := trodVars_none hV
  obtain ⟨a0, rfl, rfl, rfl, wf0⟩ := open_int Tryd.underlying3 (hval 0 3 v0 rfl rfl) h0
  obtain ⟨a1, rfl, rfl, rfl, wf1⟩ := open_int Tryd.underlying3 (hval 1 3 v1 rfl rfl) h1
  clear hA0 hval0
  refine (walk W hT a0 (in64_wf wf0) a1 (in64_wf wf1)).mono fun e W' ⟨he, bel⟩ => ?_
  subst he
  exact ⟨_, rfl, _, _, _, [], _, [], hW', trodAll_mk1 (shut_bool Tryd.underlying4 _), (trodAll_cons_mk (shut_int Tryd.underlying3 wf0) (trodAll_cons_mk (shut_int Tryd.underlying3 wf1) trodAll_mk0)), rfl, bel.frame _, fun h => by cases h⟩

theorem over : Rows.codePutsRow.holds Tryd.pinned (OpenSpec.ofChange Rows.codePutsSpec) :=
  OpenClaim.holds_of_wide 5 Tryd.f5 rfl rfl rfl rfl rfl rfl rfl ⟨rfl, rfl, rfl, rfl, rfl⟩ rfl rfl rfl rfl rfl (by kernel_rfl) Tryd.func5 (by kernel_rfl)
    (of_decide_eq_true (by kernel_rfl)) (by unfold Func.isWrapper; rw [if_neg (of_decide_eq_false (by kernel_rfl))]; exact ⟨rfl, rfl⟩)
    (fun os started H enc _ => lifted os started H enc)

theorem proved : Rows.CodePutsCardSaid :=
  Claim7.holds_tied_plain_at .later [] Rows.codePutsCard.laidKinds true Rows.codePutsCard.stood.harness false
    over (fun _ h => by cases h) (by kernel_rfl) (fun _ h => by cases h) codePuts_row_tie rfl ⟨rfl, rfl⟩ (by kernel_rfl) rfl
    (fun f fn hf hfn => by
      obtain rfl : f = 5 := Option.some.inj ((show Tryd.prog.funcNamed "aumbry/aumbrylaw01.CodePuts" = some 5 by kernel_rfl).symm.trans hf) |>.symm
      obtain rfl : fn = Tryd.f5 := (Option.some.inj (Tryd.func5.symm.trans hfn)).symm
      exact ⟨by kernel_rfl, fun j t ht => by
        have ht' : Tryd.f5.params[j]? = some t := ht
        rw [Tryd.params5] at ht'
        have hm : t ∈ [3, 3] := by simpa using Array.mem_of_getElem? ht'
        have hall : ([3, 3].all fun u => !Tryd.prog.wantsStandIn u) = true := by kernel_rfl
        exact (show Tryd.prog.wantsStandIn t = false by simpa using List.all_eq_true.1 hall t hm)⟩)
    (by kernel_rfl)
end Go.Proofs.YtijhcdmjiclnnaaDoor.LawCodePuts
