/- P19.3: without any H - k servers k unlike shares are left at least. No condition. -/
import Derived.Test.YtoicohcomjnnfaaFrame
import Derived.Test.YtoicohcomjnnfaaLoses
import Derived.Test.YtoicohcomjnnfaaUnlike
import Derived.Test.YtoicohcomjnnfaaWakes19
import Derived.Test.YtoicohcomjnnfaaLossLaw
namespace Go.Proofs.Ytoicohcomjnnfaa.LawPlaceAny
open Go Go.RowKit Go.ChangeShapes Go.WideShapes Go.ChangeAt Go.Proofs.Ytoicohcomjnnfaa
set_option linter.unusedVariables false

set_option maxHeartbeats 2000000 in
theorem walk (w : World) (v : Value) (l : List (List Int)) (h : Rows2 w w.heap.size v l) (k : Int) (hk : In64 k) (vg : Value) (gone : List Int) (hg : Ints w w.heap.size vg gone) (hg64 : ∀ x ∈ gone, In64 x) :
    Calls Try.prog 4 #[v, .int .i64 k, vg] w fun e w' => e = .returned (.bool true) ∧ Below w.heap.size w w' := by
  have H1 := hide (rows_any v l 7 w _ h (Nat.le_refl _) (by omega))
  have HG := hide hg
  have HGV := hide hg64
  obtain ⟨hk1, hk2⟩ := hk
  clear h hg hg64
  go_enter Try.func4, Try.ntmps4
  go_wp2_with fail
  refine H1.out.mono ?_
  rintro e w1 ⟨v1, rfl, ho, hb1⟩
  have hlen : (rowsF l 7).length ≤ 7 := by unfold rowsF; simp; omega
  generalize rowsF l 7 = L at ho hlen
  have HB1 := hide hb1
  have hs1 := hb1.size
  have HR1 := hide ho.reads
  have HG1 := hide (HG.out.below hb1 (Nat.le_refl _))
  clear ho hb1
  go_wp2_with fail
  refine (match_mm v1 L w1 _ HR1.out (Nat.le_refl _)).mono ?_
  rintro e w2 ⟨rfl, hb2⟩
  have hm16 := mmR_le L
  obtain ⟨m, HM⟩ : ∃ m, Hid ((mmR L fun _ => false) = m) := ⟨_, hide rfl⟩
  rw [HM.out] at hm16 ⊢
  have HB2 := hide (HB1.out.trans (hb2.mono hs1))
  have hs2 := hb2.size
  have HR2 := hide (HR1.out.below hb2 (Nat.le_refl _))
  have HG2 := hide ((HG1.out).below hb2 hs1)
  clear hb2
  go_wp2_with fail
  refine (within_any k (m + 1) w2 hk1 hk2 (by omega)).mono ?_
  rintro e w' ⟨rfl, rfl⟩
  have hw1 : 0 ≤ within k (m + 1) ∧ within k (m + 1) ≤ m := by
    unfold within; rw [if_neg (by omega)]
    have := Int.emod_nonneg k (show (m + 1 : Int) ≠ 0 by omega)
    have := Int.emod_lt_of_pos k (show (0 : Int) < m + 1 by omega)
    omega
  obtain ⟨hw1, hw2⟩ := hw1
  generalize within k (m + 1) = k' at hw1 hw2
  obtain ⟨A, c, rfl, g1, g2, g3⟩ := HG2.out.open_
  unfold maxLen at g2
  have G3 := hide g3
  clear g3
  obtain ⟨A1, c1, rfl, f1, f2, f3⟩ := HR2.out.open_
  clear f1 f2 f3
  go_wp2_with fail
  go_loopw [8, 9] (fun vg' i wr => ∃ (j : Nat) (g : List Int), j ≤ gone.length ∧ i = .int .i64 j ∧ (g.length : Int) ≤ m - k' ∧ wr.ownsRow w2.heap.size 3 1 vg' g.length (g.map (.int .i64)) ∧ Below w2.heap.size w2 wr) (fun _ i _ => gone.length - (intOf i).toNat)
  case atStart => exact ⟨0, [], Nat.zero_le _, rfl, by simp; omega, World.ownsRow_nil _ _ _ _, Below.refl _ _⟩
  case round =>
    obtain ⟨j, g, hj, rfl, hgl, hown, hbel⟩ := hrel
    have HBr := hide hbel
    have hsr := hbel.size
    clear hbel
    obtain ⟨A3, c3, rfl⟩ := own_shape hown
    by_cases hjt : j < gone.length
    · by_cases hgt : (g.length : Int) < m - k'
      · obtain ⟨b, o, rfl, hb, hcs⟩ := G3.out (by omega)
        have hc : wr.cell? ⟨b, o + j, none⟩ = some (.int .i64 gone[j]) := (HBr.out.cell (p := ⟨b, o + j, none⟩) (by simp; omega)).trans (hcs j hjt)
        have h64 := HGV.out gone[j] (List.getElem_mem hjt)
        obtain ⟨x, HX⟩ : ∃ x, Hid (gone[j] = x) := ⟨_, hide rfl⟩
        rw [HX.out] at hc h64
        obtain ⟨hx1, hx2⟩ := h64
        have hoA := hown.alloc (.cells #[.int .i64 (within x L.length)] 3)
        have HO := hide hown
        have hbyt : (g.length + 1) * 8 ≤ 140737488355328 := by omega
        have hbase : w2.heap.size ≤ (wr.alloc (.cells #[.int .i64 (within x L.length)] 3)).heap.size := by simp; omega
        clear hcs hown
        go_wp2_with fail
        refine (within_any x L.length wr hx1 hx2 (by omega)).mono ?_
        rintro e w' ⟨rfl, rfl⟩
        go_wp2_with (at_builtin; go_must (refine wpList_append_rd _ rfl _ _ _ rfl w2.heap.size _ _ _ el_ints _ _ _ rfl hoA (wr.heap.size + 1) _ _ _ rfl (Rd.one wr 3 _) (by intro u hu; obtain rfl := List.mem_singleton.1 hu; rfl) hbyt hbase ?_))
        intro v' w3 hown3 hgr _
        have HO3 := hide (show w3.ownsRow w2.heap.size 3 1 v' (g ++ [within x L.length]).length ((g ++ [within x L.length]).map (.int .i64)) by simpa using hown3)
        have HB3 := hide ((HBr.out.alloc (by omega) _).grown hgr hbase (own_base hoA))
        clear hown3 hgr hoA
        go_wp2_with fail
        go_roundw
        case rel => exact ⟨j + 1, g ++ [within x L.length], by omega, by go_num, by simp; omega, HO3.out, HB3.out⟩
        case measure => simp [intOf]; omega
      · have HO := hide hown
        clear hown
        go_wp2_with fail
        refine (loses_any _ _ L g k' wr wr.heap.size ((HR2.out.below HBr.out hs2).more (by omega)) (Ints.of_own HO.out) (Nat.le_refl _)).mono ?_
        rintro e w4 ⟨rfl, hb4⟩
        have HB4 := hide (HB2.out.trans ((HBr.out.mono (by omega)).trans (hb4.mono (by omega))))
        have ef : losB g L k' = false := losB_false L g k' m HM.out (by omega)
        rw [ef]
        clear ef hb4
        go_wp2_with fail
        refine (wakes19 w4).mono ?_
        rintro e w5 ⟨rfl, hb5⟩
        have HB5 := hide (HB4.out.trans (hb5.mono HB4.out.size))
        clear hb5
        go_wp2_with fail
        go_ret
        exact ⟨rfl, HB5.out⟩
    · have HO := hide hown
      clear hown
      go_wp2_with fail
      refine (loses_any _ _ L g k' wr wr.heap.size ((HR2.out.below HBr.out hs2).more (by omega)) (Ints.of_own HO.out) (Nat.le_refl _)).mono ?_
      rintro e w4 ⟨rfl, hb4⟩
      have HB4 := hide (HB2.out.trans ((HBr.out.mono (by omega)).trans (hb4.mono (by omega))))
      have ef : losB g L k' = false := losB_false L g k' m HM.out (by omega)
      rw [ef]
      clear ef hb4
      go_wp2_with fail
      refine (wakes19 w4).mono ?_
      rintro e w5 ⟨rfl, hb5⟩
      have HB5 := hide (HB4.out.trans (hb5.mono HB4.out.size))
      clear hb5
      go_wp2_with fail
      go_ret
      exact ⟨rfl, HB5.out⟩

set_option maxRecDepth 100000 in
theorem lifted (os : Os) (started : os.Started) (H : Type) (enc : TypeId × Value → H) :
    ReturnsInHanded {} Try.checked os 4 .any (Rows.placeAnySpec.pre6 enc Try.prog Try.f4 Rows.placeAnyRow.domain false) (Rows.placeAnySpec.post enc Try.prog Try.f4 false true false false) := by
  refine returnsInHanded_of_change (C := Try.checked) own started (by kernel_rfl) Try.func4
    (ChangeSpec.witness6 (enc := enc) (C := Try.checked) false ⟨#[], #[.slice none 0 0, .int .i64 0, .slice none 0 0], []⟩ 8 (by kernel_rfl) (by kernel_rfl) (by kernel_rfl) (by kernel_rfl)) ?_
  intro W base args ds gs before hval0 hW hcnd _
  have hval : ∀ (j : Nat) t v, Try.f4.params[j]? = some t → args[j]? = some v → Value.okWide Try.prog W .any base t v := hval0
  have hW' := hW
  obtain ⟨p, q, hA0, hV, rfl, hfz, hnd⟩ := hW
  have hA : DataW.TrodAll enc Try.prog W 0 (fun _ => true) true Try.f4.params.toList args.toList ds p := hA0
  rw [Try.params4] at hA hval
  obtain ⟨v0, vs0, d0, ds0, p0, q0, hargs, rfl, rfl, h0, r0⟩ := trodAll_cons hA
  obtain ⟨v1, vs1, d1, ds1, p1, q1, rfl, rfl, rfl, h1, r1⟩ := trodAll_cons r0
  obtain ⟨v2, vs2, d2, ds2, p2, q2, rfl, rfl, rfl, h2, r2⟩ := trodAll_cons r1
  obtain ⟨rfl, rfl, rfl⟩ := trodAll_nil r2
  obtain rfl : args = #[v0, v1, v2] := by cases args; simp_all
  obtain ⟨rfl, rfl⟩ := trodVars_none hV
  obtain ⟨s0, len0, cap0, rfl⟩ := okWide_slice Try.underlying22 (hval 0 22 v0 rfl rfl)
  have k0 := h0
  have lt0 : ∀ x ∈ p0, x.block < W.heap.size := by obtain ⟨m, hm⟩ := k0; exact DataW.trod_lt m _ _ _ hm
  obtain ⟨z0, w0⟩ := read_rows h0
  obtain ⟨a1, rfl, rfl, rfl, wf1⟩ := open_int Try.underlying3 (hval 1 3 v1 rfl rfl) h1
  obtain ⟨s2, len2, cap2, rfl⟩ := okWide_slice Try.underlying23 (hval 2 23 v2 rfl rfl)
  have k2 := h2
  have lt2 : ∀ x ∈ p2, x.block < W.heap.size := by obtain ⟨m, hm⟩ := k2; exact DataW.trod_lt m _ _ _ hm
  obtain ⟨z2, w2, b2⟩ := read_ints h2
  clear hA0 hval0
  refine (walk W _ z0 w0 a1 (in64_wf wf1) _ z2 w2 b2).mono fun e W' ⟨he, bel⟩ => ?_
  subst he
  exact ⟨_, rfl, _, _, _, [], _, [], hW', trodAll_mk1 (shut_bool Try.underlying4 _), (trodAll_cons_mk (Below.trod laidOut (by kernel_rfl) (of_decide_eq_true (by kernel_rfl)) k0 bel lt0) (trodAll_cons_mk (shut_int Try.underlying3 wf1) (trodAll_cons_mk (Below.trod laidOut (by kernel_rfl) (of_decide_eq_true (by kernel_rfl)) k2 bel lt2) trodAll_mk0))), rfl, bel.frame _, fun h => by cases h⟩

theorem over : Rows.placeAnyRow.holds Try.pinned (OpenSpec.ofChange Rows.placeAnySpec) :=
  OpenClaim.holds_of_wide 4 Try.f4 rfl rfl rfl rfl rfl rfl rfl ⟨rfl, rfl, rfl, rfl, rfl⟩ rfl rfl rfl rfl rfl (by kernel_rfl) Try.func4 (by kernel_rfl)
    (of_decide_eq_true (by kernel_rfl)) (by unfold Func.isWrapper; rw [if_neg (of_decide_eq_false (by kernel_rfl))]; exact ⟨rfl, rfl⟩)
    (fun os started H enc _ => lifted os started H enc)

theorem proved : Rows.PlaceAnySaid := over
end Go.Proofs.Ytoicohcomjnnfaa.LawPlaceAny
