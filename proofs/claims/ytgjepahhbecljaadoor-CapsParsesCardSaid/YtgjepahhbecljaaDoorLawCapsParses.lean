/-
CapsParses holds: the program's capability of any text of at most three hundred letters, or that there is none, is the document's. Conditions: none but the row's own.
-/
import Derived.Test.YtgjepahhbecljaaDoorWakes13
import Derived.Test.YtgjepahhbecljaaDoorParse
import Derived.Test.YtgjepahhbecljaaDoorParseRef
import Derived.Test.YtgjepahhbecljaaDoorSameCap
import Derived.Test.YtgjepahhbecljaaDoorCapFrame
import Derived.Test.YtgjepahhbecljaaDoorTied
namespace Go.Proofs.YtgjepahhbecljaaDoor.LawCapsParses
open Go Go.RowKit Go.ChangeShapes Go.WideShapes Go.ChangeAt
set_option linter.unusedVariables false
set_option maxRecDepth 100000

/-- What is handed back, in one form. -/
def parseC (xs : List Int) : CapD × Int := match parseF xs with | some c => (c, 0) | none => (CapD.none_, 2)
theorem parseC_wf (xs : List Int) : (parseC xs).1.Wf := by
  unfold parseC
  cases h : parseF xs with
  | none => exact CapD.none_wf
  | some c => exact ((parse_iff xs c).1 h).1
theorem post_open {w : World} {xs : List Int} {e : Ending} {w' : World} (h : ParsePost w xs e w') :
    ∃ l, e = .returned (.tuple #[capV (parseC xs).1 l, .int .i64 (parseC xs).2]) ∧ RowB w' w.heap.size l (parseC xs).1.lit ∧ Below w.heap.size w w' := by
  rcases h with ⟨c, l, hp, he, hr, hb⟩ | ⟨hp, he, hb⟩
  · have e : parseC xs = (c, 0) := by unfold parseC; rw [hp]
    exact ⟨l, by rw [e]; exact he, by rw [e]; exact hr, hb⟩
  · have e : parseC xs = (CapD.none_, 2) := by unfold parseC; rw [hp]
    exact ⟨_, by rw [e]; exact he, by rw [e]; exact RowB.nil_ _ _, hb⟩

set_option maxHeartbeats 8000000 in
theorem walk (w : World) (ht : Tab w w.heap.size) (s : ByteArray) (hsz : s.size ≤ maxLen) :
    Calls Tryd.prog 6 #[.string s] w fun e w' => e = .returned (.bool true) ∧ Below w.heap.size w w' := by
  have HT := hide ht
  by_cases h300 : 300 < s.size
  · have g3 : (300 : Int) < (s.size : Int) := by omega
    have HWK := hide (wakes13 w HT.out)
    clear ht hsz h300
    go_enter Tryd.func6, Tryd.ntmps6
    go_wp2_with fail
    refine HWK.out.mono ?_
    rintro e w1 ⟨rfl, hb1⟩
    have HB := hide hb1
    clear hb1
    go_wp2_with fail
    go_ret
    exact ⟨rfl, HB.out⟩
  · have g3 : ¬ (300 : Int) < (s.size : Int) := by omega
    have HP1 := hide (Parse_any s w HT.out (by omega))
    have HP2 := hide (fun w' => Parse_ref s w' (by omega))
    obtain ⟨xs, HXS⟩ : ∃ x, Hid (strB s = x) := ⟨_, hide rfl⟩
    rw [HXS.out] at HP1 HP2
    have HWF := hide (parseC_wf xs)
    replace HP1 := hide (HP1.out.mono fun e w' h => post_open h)
    replace HP2 := hide (fun w' => (HP2.out w').mono fun e w' h => post_open h)
    obtain ⟨C, HC⟩ : ∃ x, Hid ((parseC xs).1 = x) := ⟨_, hide rfl⟩
    obtain ⟨E, HE⟩ : ∃ x, Hid ((parseC xs).2 = x) := ⟨_, hide rfl⟩
    rw [HC.out, HE.out] at HP1 HP2
    rw [HC.out] at HWF
    clear ht hsz h300
    go_enter Tryd.func6, Tryd.ntmps6
    go_wp2_with fail
    refine HP1.out.mono ?_
    rintro e w1 ⟨l1, rfl, hr1, hb1⟩
    have L1 := hide hr1.reads
    have O1 := hide hr1.one
    have HW := hide hb1
    have W1 := hide (Below.refl w1.heap.size w1)
    clear hr1 hb1
    obtain ⟨V1, EV1⟩ : ∃ x, Hid (capV C l1 = x) := ⟨_, hide rfl⟩
    rw [EV1.out]
    go_wp2_with (first
      | (refine wpList_cap_zero rfl rfl ?_; intro wz hbz hwz hsz; have BA := hide hbz; replace W1 := hide (W1.out.trans hwz); clear hbz hwz)
      | (refine wpList_cap_putAll _ _ rfl rfl rfl BA.out C l1 EV1.out.symm HWF.out.keyL HWF.out.fpL O1.out ?_; intro wp hbp hgp hsp; replace BA := hide hbp; replace W1 := hide (W1.out.grown hgp W1.out.size (by intro k hk; simp at hk; omega)); clear hbp hgp))
    refine (HP2.out _).mono ?_
    rintro e w5 ⟨l2, rfl, hr2, hb2⟩
    have hs2 := hb2.size
    have hw1 := W1.out.size
    have L2 := hide hr2.reads
    have O2 := hide hr2.one
    replace BA := hide (BA.out.below hb2 BA.out.lt)
    replace W1 := hide (W1.out.trans (hb2.mono hw1))
    have W2 := hide (Below.refl w5.heap.size w5)
    clear hr2 hb2
    obtain ⟨V2, EV2⟩ : ∃ x, Hid (capV C l2 = x) := ⟨_, hide rfl⟩
    rw [EV2.out]
    have hz1 := W1.out.size
    have HSM := hide (fun (w' : World) (h1 : Below w1.heap.size w1 w') (h2 : Below w5.heap.size w5 w') => same_cap C C l1 l2 w' HWF.out.keyL HWF.out.fpL HWF.out.keyL HWF.out.fpL ((L1.out.below h1 (Nat.le_refl _)).more h1.size) ((L2.out.below h2 (Nat.le_refl _)).more h2.size) HWF.out.litB HWF.out.litB)
    rw [sameF_self, EV1.out, EV2.out] at HSM
    have HTT := hide (fun (w' : World) (h1 : Below w1.heap.size w1 w') => ((HT.out.below (HW.out.trans (h1.mono HW.out.size)) (Nat.le_refl _)).more (HW.out.trans (h1.mono HW.out.size)).size))
    have HWK := hide (fun (w' : World) (h1 : Below w1.heap.size w1 w') => wakes13 w' (HTT.out w' h1))
    go_wp2_with (first
      | go_skip
      | (refine wpList_cap_zero rfl rfl ?_; intro wz hbz hwz hsz; have BB := hide hbz; replace BA := hide (BA.out.below hwz BA.out.lt); replace W1 := hide (W1.out.trans (hwz.mono (by omega))); replace W2 := hide (W2.out.trans hwz); clear hbz hwz)
      | (refine wpList_cap_putAll _ _ rfl rfl rfl BB.out C l2 EV2.out.symm HWF.out.keyL HWF.out.fpL O2.out ?_; intro wp hbp hgp hsp; have hlta := BA.out.lt; replace BB := hide hbp; replace BA := hide (BA.out.grown hgp (by intro h; injection h with h; omega)); replace W1 := hide (W1.out.grown hgp (by omega) (by intro k hk; simp at hk; omega)); replace W2 := hide (W2.out.grown hgp W2.out.size (by intro k hk; simp at hk; omega)); clear hbp hgp)
      | (refine wpList_cap_all _ rfl rfl rfl BA.out ?_; rw [EV1.out])
      | (refine wpList_cap_all _ rfl rfl rfl BB.out ?_; rw [EV2.out])
      | (go_at_call 27; refine (HSM.out _ W1.out W2.out).mono ?_; rintro e w8 ⟨rfl, hb8⟩; replace W1 := hide (W1.out.trans (hb8.mono W1.out.size)); clear hb8 W2)
      | (go_at_call 18; refine (HWK.out _ W1.out).mono ?_; rintro e w9 ⟨rfl, hb9⟩; replace W1 := hide (W1.out.trans (hb9.mono W1.out.size)); clear hb9))
    all_goals go_ret
    all_goals exact ⟨by first | rfl | simp, HW.out.trans (W1.out.mono HW.out.size)⟩

set_option maxRecDepth 100000 in
theorem lifted (os : Os) (started : os.Started) (H : Type) (enc : TypeId × Value → H) :
    ReturnsInHanded {} Tryd.checked os 6 .any (fun w args => (Rows.capsParsesSpec.pre enc Tryd.prog Tryd.f6 [] false w args ∧ laidMetH Tryd.prog laidD w) ∧ sizedMet enc Tryd.prog Tryd.f6 (OpenSpec.ofChange Rows.capsParsesSpec) false w args)
      (Rows.capsParsesSpec.post enc Tryd.prog Tryd.f6 false true false false) := by
  refine returnsInHanded_of_change_and (C := Tryd.checked) (X := fun w _ => laidMetH Tryd.prog laidD w) (fun _ _ _ hh h => h.of_heap hh) own started (by kernel_rfl) Tryd.func6
    (ChangeSpec.witness_shaped (enc := enc) (C := Tryd.checked) (os := os) (X := fun w _ => laidMetH Tryd.prog laidD w) false (World.doorLaid Tryd.prog doorSteps os) #[.string { data := #[] }] 8 rfl (World.shaped_of_RefB (by kernel_rfl) (by kernel_rfl)) (by kernel_rfl) (by kernel_rfl) (by kernel_rfl) (door_met os _)) ?_
  intro W base args ds gs before hval0 hW _ _ hL _
  have hT := tab_of hL
  have hval : ∀ (j : Nat) t v, Tryd.f6.params[j]? = some t → args[j]? = some v → Value.okWide Tryd.prog W .any base t v := hval0
  have hW' := hW
  obtain ⟨p, q, hA0, hV, rfl, hfz, hnd⟩ := hW
  have hA : DataW.TrodAll enc Tryd.prog W 0 (fun _ => true) true Tryd.f6.params.toList args.toList ds p := hA0
  rw [Tryd.params6] at hA hval
  obtain ⟨v0, vs0, d0, ds0, p0, q0, hargs, rfl, rfl, h0, r0⟩ := trodAll_cons hA
  obtain ⟨rfl, rfl, rfl⟩ := trodAll_nil r0
  obtain rfl : args = #[v0] := by cases args; simp_all
  obtain ⟨rfl, rfl⟩ := trodVars_none hV
  obtain ⟨a0, rfl, rfl, rfl, sz0⟩ := Go.ChangeMaps.open_string Tryd.underlying9 (hval 0 9 v0 rfl rfl) h0
  clear hA0 hval0
  refine (walk W hT a0 sz0).mono fun e W' ⟨he, bel⟩ => ?_
  subst he
  exact ⟨_, rfl, _, _, _, [], _, [], hW', trodAll_mk1 (shut_bool Tryd.underlying4 _), (trodAll_cons_mk (Go.ChangeMaps.shut_string Tryd.underlying9 sz0) trodAll_mk0), rfl, bel.frame _, fun h => by cases h⟩

theorem over : Rows.capsParsesRow.holds Tryd.pinned (OpenSpec.ofChange Rows.capsParsesSpec) :=
  OpenClaim.holds_of_wide 6 Tryd.f6 rfl rfl rfl rfl rfl rfl rfl ⟨rfl, rfl, rfl, rfl, rfl⟩ rfl rfl rfl rfl rfl (by kernel_rfl) Tryd.func6 (by kernel_rfl)
    (of_decide_eq_true (by kernel_rfl)) (by unfold Func.isWrapper; rw [if_neg (of_decide_eq_false (by kernel_rfl))]; exact ⟨rfl, rfl⟩)
    (fun os started H enc _ => lifted os started H enc)

theorem proved : Rows.CapsParsesCardSaid :=
  Claim7.holds_tied_plain_at .later [] Rows.capsParsesCard.laidKinds true Rows.capsParsesCard.stood.harness Rows.capsParsesCard.stood.looks
    over (fun _ h => by cases h) (by kernel_rfl) (fun _ h => by cases h) capsParses_row_tie rfl ⟨rfl, rfl⟩ (by kernel_rfl) rfl
    (fun f fn hf hfn => by
      obtain rfl : f = 6 := Option.some.inj ((show Tryd.prog.funcNamed "aumbry/aumbrylaw13.CapsParses" = some 6 by kernel_rfl).symm.trans hf) |>.symm
      obtain rfl : fn = Tryd.f6 := (Option.some.inj (Tryd.func6.symm.trans hfn)).symm
      exact ⟨by kernel_rfl, fun j t ht => by
        have ht' : Tryd.f6.params[j]? = some t := ht
        rw [Tryd.params6] at ht'
        have hm : t ∈ [9] := by simpa using Array.mem_of_getElem? ht'
        have hall : ([9].all fun u => !Tryd.prog.wantsStandIn u) = true := by kernel_rfl
        exact (show Tryd.prog.wantsStandIn t = false by simpa using List.all_eq_true.1 hall t hm)⟩)
    (by kernel_rfl)
end Go.Proofs.YtgjepahhbecljaaDoor.LawCapsParses
