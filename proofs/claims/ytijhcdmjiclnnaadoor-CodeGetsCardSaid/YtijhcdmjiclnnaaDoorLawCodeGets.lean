/- P1.1: bytes as a number; more than seven are none: the program's and the reference's; the bytes lent are left alone. Condition: the library's tables are laid (tied to the program's text). -/
import Derived.Test.YtijhcdmjiclnnaaDoorFrameBytes
import Derived.Test.YtijhcdmjiclnnaaDoorTied
import Derived.Test.YtijhcdmjiclnnaaDoorWakes01
import Derived.Test.YtijhcdmjiclnnaaDoorGet
import Derived.Test.YtijhcdmjiclnnaaDoorLend
import Derived.Test.YtijhcdmjiclnnaaDoorIntact
namespace Go.Proofs.YtijhcdmjiclnnaaDoor.LawCodeGets
open Go Go.RowKit Go.ChangeShapes Go.WideShapes Go.ChangeAt Go.Proofs.YtijhcdmjiclnnaaDoor
set_option linter.unusedVariables false

theorem getF_shape (xs : List Int) : ∃ (n : Int) (ok : Bool), getF xs = .tuple #[.int .i64 n, .bool ok] := by
  unfold getF
  split
  · exact ⟨_, _, rfl⟩
  · exact ⟨_, _, rfl⟩

set_option maxHeartbeats 1000000 in
theorem walk (w : World) (ht : Tab w w.heap.size) (v : Value) (b : List Int) (hv : Bs w w.heap.size v b) (hb : Bytes b) :
    Calls Tryd.prog 6 #[v] w fun e w' => e = .returned (.bool true) ∧ Below w.heap.size w w' := by
  have HT := hide ht
  have HCUT := hide (fun (w' : World) (hb : Below w.heap.size w w') => cut_bytes v b 12 w' w.heap.size (hv.below hb (Nat.le_refl _)) (by omega) (by omega))
  obtain ⟨A, cp, rfl, h1, h2, h3⟩ := hv.open_
  have HBC := hide (show Bytes (b.take (12 : Int).toNat) from fun x hx => hb x (List.mem_of_mem_take hx))
  have hlen : (b.take (12 : Int).toNat).length ≤ 12 := by rw [List.length_take]; exact Nat.min_le_left _ _
  obtain ⟨c, HC⟩ : ∃ c, Hid (b.take (12 : Int).toNat = c) := ⟨_, hide rfl⟩
  rw [HC.out] at HCUT HBC hlen
  unfold maxLen at h2
  clear ht hv hb h3 HC
  go_enter Tryd.func6, Tryd.ntmps6
  go_wp2_with fail
  refine (HCUT.out w (Below.refl _ _)).mono ?_
  rintro e w' ⟨v1, rfl, hv1, rfl⟩
  obtain ⟨N, HN⟩ : ∃ n, Hid (c.length = n) := ⟨_, hide rfl⟩
  rw [HN.out] at hlen
  have HLEND := hide (Lend_any v1 c w hv1 (by rw [HN.out]; omega))
  rw [HN.out] at HLEND
  clear hv1
  go_wp2_with fail
  refine HLEND.out.mono ?_
  rintro e w1 ⟨g, rfl, hg, hbk, hb1⟩
  have hs1 := hb1.size
  have hgl := hbk.lt
  have HX1 := hide (show Bs w1 w1.heap.size (.slice (some ⟨g, 0, none⟩) N (N + 3)) c by
    have h3 : (c ++ [85, 85, 85]).length = N + 3 := by rw [List.length_append, HN.out]; rfl
    have h := (Own8.of_blk (base := g) hbk (Nat.le_refl _) (by rw [h3]; unfold maxLen; omega)).reads
    rw [h3] at h
    have h := h.take N (by rw [h3]; omega)
    rw [← HN.out, List.take_left' rfl, HN.out] at h
    exact h)
  have HBK := hide hbk
  have HB1 := hide hb1
  clear hbk hb1 HLEND
  obtain ⟨n, ok, hF⟩ := getF_shape c
  have HG := hide (Get_any _ c w1 HX1.out HBC.out)
  have HG2 := hide (Get_ref _ c w1 HX1.out HBC.out)
  rw [hF] at HG HG2
  clear hF HX1
  go_wp2_with fail
  refine HG.out.mono ?_
  rintro e w2 ⟨rfl, rfl⟩
  go_wp2_with fail
  refine HG2.out.mono ?_
  rintro e w2 ⟨rfl, rfl⟩
  have hnn : (n == n) = true := by simp
  have hoo : (ok == ok) = true := by simp
  clear HG HG2
  go_wp2_with fail
  refine (HCUT.out w1 HB1.out).mono ?_
  rintro e w2 ⟨v32, rfl, hv32, rfl⟩
  have HINT := hide (Intact_any g v32 c w1 HBK.out (hv32.more (by omega)) (by rw [HN.out]; omega))
  rw [HN.out] at HINT
  clear hv32
  go_wp2_with fail
  refine HINT.out.mono ?_
  rintro e w3 ⟨rfl, hb3⟩
  have HB3 := hide (HB1.out.trans (hb3.mono (by omega)))
  have hz3 := hb3.size
  clear hb3
  go_wp2_with fail
  refine (wakes01 w3 ((HT.out.below HB3.out (Nat.le_refl _)).more (by omega))).mono ?_
  rintro e w4 ⟨rfl, hb4⟩
  have HB4 := hide (HB3.out.trans (hb4.mono (by omega)))
  clear hb4
  go_wp2_with fail
  go_ret
  exact ⟨rfl, HB4.out⟩

set_option maxRecDepth 100000 in
theorem lifted (os : Os) (started : os.Started) (H : Type) (enc : TypeId × Value → H) :
    ReturnsInHanded {} Tryd.checked os 6 .any (fun w args => (Rows.codeGetsSpec.pre enc Tryd.prog Tryd.f6 [] false w args ∧ laidMetH Tryd.prog laidD w) ∧ sizedMet enc Tryd.prog Tryd.f6 (OpenSpec.ofChange Rows.codeGetsSpec) false w args)
      (Rows.codeGetsSpec.post enc Tryd.prog Tryd.f6 false true false false) := by
  refine returnsInHanded_of_change_and (C := Tryd.checked) (X := fun w _ => laidMetH Tryd.prog laidD w) (fun _ _ _ hh h => h.of_heap hh) own started (by kernel_rfl) Tryd.func6
    (ChangeSpec.witness_shaped (enc := enc) (C := Tryd.checked) (os := os) (X := fun w _ => laidMetH Tryd.prog laidD w) false (World.doorLaid Tryd.prog doorSteps os) #[.slice none 0 0] 8 rfl (World.shaped_of_RefB (by kernel_rfl) (by kernel_rfl)) (by kernel_rfl) (by kernel_rfl) (by kernel_rfl) (door_met os _)) ?_
  intro W base args ds gs before hval0 hW _ _ hL _
  have hT := tab_of hL
  have hval : ∀ (j : Nat) t v, Tryd.f6.params[j]? = some t → args[j]? = some v → Value.okWide Tryd.prog W .any base t v := hval0
  have hW' := hW
  obtain ⟨p, q, hA0, hV, rfl, hfz, hnd⟩ := hW
  have hA : DataW.TrodAll enc Tryd.prog W 0 (fun _ => true) true Tryd.f6.params.toList args.toList ds p := hA0
  rw [Tryd.params6] at hA hval
  obtain ⟨v0, vs0, d0, ds0, p0, q0, hargs, rfl, rfl, h0, r0⟩ := trodAll_cons hA
  obtain ⟨rfl, rfl, rfl⟩ := trodAll_nil r0
  obtain rfl : args = #[v0] := by cases args; simp_all
  obtain ⟨rfl, rfl⟩ := trodVars_none hV
  obtain ⟨s0, len0, cap0, rfl⟩ := okWide_slice Tryd.underlying23 (hval 0 23 v0 rfl rfl)
  have k0 := h0
  have lt0 : ∀ x ∈ p0, x.block < W.heap.size := by obtain ⟨m, hm⟩ := k0; exact DataW.trod_lt m _ _ _ hm
  obtain ⟨z0, w0, b0⟩ := read_bytes h0
  clear hA0 hval0
  refine (walk W hT _ z0 w0 b0).mono fun e W' ⟨he, bel⟩ => ?_
  subst he
  exact ⟨_, rfl, _, _, _, [], _, [], hW', trodAll_mk1 (shut_bool Tryd.underlying4 _), (trodAll_cons_mk (Below.trod laidOut (by kernel_rfl) (of_decide_eq_true (by kernel_rfl)) k0 bel lt0) trodAll_mk0), rfl, bel.frame _, fun h => by cases h⟩

theorem over : Rows.codeGetsRow.holds Tryd.pinned (OpenSpec.ofChange Rows.codeGetsSpec) :=
  OpenClaim.holds_of_wide 6 Tryd.f6 rfl rfl rfl rfl rfl rfl rfl ⟨rfl, rfl, rfl, rfl, rfl⟩ rfl rfl rfl rfl rfl (by kernel_rfl) Tryd.func6 (by kernel_rfl)
    (of_decide_eq_true (by kernel_rfl)) (by unfold Func.isWrapper; rw [if_neg (of_decide_eq_false (by kernel_rfl))]; exact ⟨rfl, rfl⟩)
    (fun os started H enc _ => lifted os started H enc)

theorem proved : Rows.CodeGetsCardSaid :=
  Claim7.holds_tied_plain_at .later [] Rows.codeGetsCard.laidKinds true Rows.codeGetsCard.stood.harness false
    over (fun _ h => by cases h) (by kernel_rfl) (fun _ h => by cases h) codeGets_row_tie rfl ⟨rfl, rfl⟩ (by kernel_rfl) rfl
    (fun f fn hf hfn => by
      obtain rfl : f = 6 := Option.some.inj ((show Tryd.prog.funcNamed "aumbry/aumbrylaw01.CodeGets" = some 6 by kernel_rfl).symm.trans hf) |>.symm
      obtain rfl : fn = Tryd.f6 := (Option.some.inj (Tryd.func6.symm.trans hfn)).symm
      exact ⟨by kernel_rfl, fun j t ht => by
        have ht' : Tryd.f6.params[j]? = some t := ht
        rw [Tryd.params6] at ht'
        have hm : t ∈ [23] := by simpa using Array.mem_of_getElem? ht'
        have hall : ([23].all fun u => !Tryd.prog.wantsStandIn u) = true := by kernel_rfl
        exact (show Tryd.prog.wantsStandIn t = false by simpa using List.all_eq_true.1 hall t hm)⟩)
    (by kernel_rfl)
end Go.Proofs.YtijhcdmjiclnnaaDoor.LawCodeGets
