/- P19.2: pairs are servers and shares they have, none twice, as many as there can be; more rows never make fewer. No condition. -/
import Derived.Test.YtoicohcomjnnfaaFrame
import Derived.Test.YtoicohcomjnnfaaWakes19
import Derived.Test.YtoicohcomjnnfaaPairs
import Derived.Test.YtoicohcomjnnfaaSame2
import Derived.Test.YtoicohcomjnnfaaPairsMore
import Derived.Test.YtoicohcomjnnfaaCopyRows
import Derived.Test.YtoicohcomjnnfaaLawMatches
namespace Go.Proofs.Ytoicohcomjnnfaa.LawPlacePairs
open Go Go.RowKit Go.ChangeShapes Go.WideShapes Go.ChangeAt Go.Proofs.Ytoicohcomjnnfaa
set_option linter.unusedVariables false

set_option maxRecDepth 100000 in
set_option maxHeartbeats 8000000 in
theorem walk (w : World) (v : Value) (l : List (List Int)) (h : Rows2 w w.heap.size v l) (vm : Value) (more : List Int) (hmore : Ints w w.heap.size vm more) (_ : ∀ x ∈ more, In64 x) :
    Calls Try.prog 7 #[v, vm] w fun e w' => e = .returned (.bool true) ∧ Below w.heap.size w w' := by
  have H1 := hide (rows_any v l 5 w _ h (Nat.le_refl _) (by omega))
  have HMo := hide hmore
  clear h hmore
  go_enter Try.func7, Try.ntmps7
  go_wp2_with fail
  refine H1.out.mono ?_
  rintro e w1 ⟨v1, rfl, ho, hb1⟩
  have HF := hide (LawPlaceMatches.few_rows l 5 (by omega))
  have hlen : (rowsF l 5).length ≤ 5 := by unfold rowsF; simp; omega
  generalize rowsF l 5 = L at ho HF hlen
  have HB1 := hide hb1
  have hs1 := hb1.size
  have HR1 := hide ho.reads
  clear ho hb1
  go_wp2_with fail
  refine (match_mm v1 L w1 _ HR1.out (Nat.le_refl _)).mono ?_
  rintro e w2 ⟨rfl, hb2⟩
  have HB2 := hide (HB1.out.trans (hb2.mono hs1))
  have hs2 := hb2.size
  have HR2 := hide (HR1.out.below hb2 (Nat.le_refl _))
  clear hb2
  have hm16 := mmR_le L
  have hml := mm_le_len L
  have hpl := pairsF_len L
  obtain ⟨m, HM⟩ : ∃ m, Hid ((mmR L fun _ => false) = m) := ⟨_, hide rfl⟩
  rw [HM.out] at hm16 hml hpl ⊢
  go_wp2_with fail
  refine (pairs_any v1 L w2 _ (HR2.out.more hs2) (Nat.le_refl _) HF.out).mono ?_
  rintro e w3 ⟨v3, rfl, ho3, hb3⟩
  have HB3 := hide (HB2.out.trans (hb3.mono (by omega)))
  have hs3 := hb3.size
  have HR3 := hide (HR2.out.below hb3 hs2)
  have hp3 := Rd.of_own ho3
  clear hb3
  obtain ⟨ps, hpl', hp3', HG, H2⟩ : ∃ ps : List (Int × Int), ps.length = m ∧ Rd w3 w3.heap.size 2 v3 ps.length (flat2 ps) ∧
      Hid (∀ (i : Nat) (hi : i < ps.length), 0 ≤ ps[i].1 ∧ ps[i].1 < L.length ∧ 0 ≤ ps[i].2 ∧ ps[i].2 < 16 ∧ ps[i].2 ∈ L.getD ps[i].1.toNat []) ∧
      Hid (∀ (k i : Nat) (hk : k < i) (hi : i < ps.length), (ps[k]'(Nat.lt_trans hk hi)).1 < ps[i].1 ∧ (ps[k]'(Nat.lt_trans hk hi)).2 ≠ ps[i].2) :=
    ⟨pairsF L, hpl, hp3, pairsF_get L, pairsF_two L⟩
  clear hpl hp3 ho3
  have hpl := hpl'
  have hp3 := hp3'
  clear hpl' hp3'
  obtain ⟨A3, c3, rfl, p1, p2, p3⟩ := open_pairs hp3
  unfold maxLen at p2
  have P3 := hide p3
  have HP3 := hide hp3
  obtain ⟨A1, c1, rfl, q1, q2, q3⟩ := HR3.out.open_
  unfold maxLen at q2
  have Q3 := hide q3
  clear p3 hp3 q3
  have HPL := hide hpl
  have hpl1 : ps.length ≤ m := by omega
  have hpl2 : m ≤ ps.length := by omega
  have hne : ((ps.length : Int) != (m : Int)) = false := by rw [hpl]; simp
  clear hpl
  go_wp2_with fail
  go_loopw [7, 8, 10, 11, 25, 53] (fun _ _ _ _ i _ wr => ∃ j : Nat, j ≤ ps.length ∧ i = .int .i64 j ∧ Below w3.heap.size w3 wr) (fun _ _ _ _ i _ _ => ps.length - (intOf i).toNat)
  case atStart => exact ⟨0, Nat.zero_le _, rfl, Below.refl _ _⟩
  case round =>
    obtain ⟨i, hi, rfl, hbel⟩ := hrel
    by_cases hit : i < ps.length
    · obtain ⟨b, o, rfl, hb, hc⟩ := P3.out (by omega)
      obtain ⟨b1, o1, rfl, hb1, hc1⟩ := Q3.out (by omega)
      obtain ⟨a, s, row, u, HA, HS, ha, hs0, hs16, G5', HX1, HX2, HU, HI, H2i⟩ : ∃ (a : Nat) (s : Int) (row : List Int) (u : Value), Hid (ps[i].1 = a) ∧ Hid (ps[i].2 = s) ∧ a < L.length ∧ 0 ≤ s ∧ s < 16 ∧ Hid (s ∈ row) ∧
          Hid (w3.cell? ⟨b, o + i * 2, none⟩ = some (.int .i64 a)) ∧ Hid (w3.cell? ⟨b, o + i * 2 + 1, none⟩ = some (.int .i64 s)) ∧ Hid (w3.cell? ⟨b1, o1 + a, none⟩ = some u) ∧ Hid (Ints w3 w1.heap.size u row) ∧
          Hid (∀ (k : Nat) (hk : k < i), (ps[k]'(Nat.lt_trans hk hit)).1 < a ∧ (ps[k]'(Nat.lt_trans hk hit)).2 ≠ s) := by
        obtain ⟨g1, g2, g3, g4, g5⟩ := HG.out i hit
        have hx := hc i hit
        have hlt : (ps[i].1).toNat < L.length := by omega
        obtain ⟨u, hu, hui⟩ := hc1 (ps[i].1).toNat hlt
        rw [getD_eq _ _ _ hlt] at g5
        have ea : ((ps[i].1.toNat : Nat) : Int) = ps[i].1 := by omega
        refine ⟨ps[i].1.toNat, ps[i].2, L[(ps[i].1).toNat], u, ea.symm, rfl, hlt, g3, g4, g5, ?_, hx.2, hu, hui, fun k hk => ?_⟩
        · rw [ea]; exact hx.1
        · rw [ea]; exact H2.out k i hk hit
      have HC := hide hc
      have HB := hide hbel
      obtain ⟨A4, c4, rfl, r1, r2, r3⟩ := HI.out.open_
      unfold maxLen at r2
      have R3' := hide r3
      have hc1' : wr.cell? ⟨b, o + i * 2, none⟩ = some (.int .i64 a) := (hbel.cell (p := ⟨b, o + i * 2, none⟩) (by simp; omega)).trans HX1.out
      have hc2' : wr.cell? ⟨b, o + i * 2 + 1, none⟩ = some (.int .i64 s) := (hbel.cell (p := ⟨b, o + i * 2 + 1, none⟩) (by simp; omega)).trans HX2.out
      have hc3' : wr.cell? ⟨b1, o1 + a, none⟩ = some (.slice A4 row.length c4) := (hbel.cell (p := ⟨b1, o1 + a, none⟩) (by simp; omega)).trans HU.out
      clear hc hc1 hbel r3
      obtain ⟨wo, rfl⟩ : ∃ wo : World, wo = wr := ⟨_, rfl⟩
      go_wp2_with fail
      go_loop [8, 10, 53] (fun vb _ vi => ∃ j : Nat, j ≤ row.length ∧ vi = .int .i64 j ∧ vb = .bool (decide (s ∈ row.take j))) (fun _ _ vi => row.length - (intOf vi).toNat)
      case atStart => exact ⟨0, Nat.zero_le _, rfl, by simp⟩
      case round =>
        obtain ⟨j, hj, rfl, rfl⟩ := hrel
        by_cases hjt : j < row.length
        · obtain ⟨b5, o5, rfl, hb5, hc5⟩ := R3'.out (by omega)
          have hc5' : wo.cell? ⟨b5, o5 + j, none⟩ = some (.int .i64 row[j]) := (HB.out.cell (p := ⟨b5, o5 + j, none⟩) (by simp; omega)).trans (hc5 j hjt)
          have et : row.take (j + 1) = row.take j ++ [row[j]] := List.take_succ_eq_append_getElem hjt
          have HET := hide et
          obtain ⟨x, HXj⟩ : ∃ x, Hid (row[j] = x) := ⟨_, hide rfl⟩
          rw [HXj.out] at hc5'
          clear hc5 et
          rcases hin : decide (s ∈ row.take j) with _ | _
          · have HIN := hide hin
            clear hin
            by_cases hxs : x = s
            · have hxb : (x == s) = true := by rw [beq_iff_eq]; exact hxs
              have HXS := hide hxs
              clear hxs
              go_wp2_with fail
              go_round
              case rel => exact ⟨j + 1, by omega, by go_num, by rw [HET.out, HXj.out, HXS.out]; simp⟩
              case measure => simp [intOf]; omega
            · have hxb : (x == s) = false := by rw [beq_eq_false_iff_ne]; exact hxs
              have HXS := hide hxs
              clear hxs
              go_wp2_with fail
              go_round
              case rel =>
                refine ⟨j + 1, by omega, by go_num, ?_⟩
                rw [HET.out, HXj.out]
                have h1 : s ∉ row.take j := by simpa using HIN.out
                have h2 : ¬ s = x := fun e => HXS.out e.symm
                simp only [List.mem_append, List.mem_singleton, h1, h2, or_self, decide_false]
              case measure => simp [intOf]; omega
          · have HIN := hide hin
            clear hin
            go_wp2_with fail
            go_round
            case rel =>
              refine ⟨j + 1, by omega, by go_num, ?_⟩
              have h1 : s ∈ row.take j := by simpa using HIN.out
              rw [HET.out]
              simp only [List.mem_append, h1, true_or, decide_true]
            case measure => simp [intOf]; omega
        · have ein : decide (s ∈ row.take j) = true := by rw [List.take_of_length_le (by omega)]; simpa using G5'.out
          rw [ein]
          clear ein
          go_wp2_with fail
          go_loopw [11] (fun vk wr => ∃ k : Nat, k ≤ i ∧ vk = .int .i64 k ∧ Below w3.heap.size w3 wr) (fun vk _ => i - (intOf vk).toNat)
          case atStart => exact ⟨0, Nat.zero_le _, rfl, HB.out⟩
          case round =>
            obtain ⟨k, hk, rfl, hbel⟩ := hrel
            have hc1'' : wr.cell? ⟨b, o + i * 2, none⟩ = some (.int .i64 a) := (hbel.cell (p := ⟨b, o + i * 2, none⟩) (by simp; omega)).trans HX1.out
            have hc2'' : wr.cell? ⟨b, o + i * 2 + 1, none⟩ = some (.int .i64 s) := (hbel.cell (p := ⟨b, o + i * 2 + 1, none⟩) (by simp; omega)).trans HX2.out
            have HBk := hide hbel
            by_cases hkt : k < i
            · obtain ⟨h21, h22⟩ := H2i.out k hkt
              have hk' : k < ps.length := by omega
              have hck := HC.out k hk'
              have hck1 : wr.cell? ⟨b, o + k * 2, none⟩ = some (.int .i64 ps[k].1) := (hbel.cell (p := ⟨b, o + k * 2, none⟩) (by simp; omega)).trans hck.1
              have hck2 : wr.cell? ⟨b, o + k * 2 + 1, none⟩ = some (.int .i64 ps[k].2) := (hbel.cell (p := ⟨b, o + k * 2 + 1, none⟩) (by simp; omega)).trans hck.2
              have hg := HG.out k hk'
              obtain ⟨x1, HX1k⟩ : ∃ x, Hid (ps[k].1 = x) := ⟨_, hide rfl⟩
              obtain ⟨x2, HX2k⟩ : ∃ x, Hid (ps[k].2 = x) := ⟨_, hide rfl⟩
              rw [HX1k.out] at hck1 h21
              rw [HX2k.out] at hck2 h22
              have hd1 : decide ((a : Int) ≤ x1) = false := by simpa using h21
              have hd2 : (x2 == s) = false := by rw [beq_eq_false_iff_ne]; exact h22
              have hki : (k : Int) < (ps.length : Int) := by omega
              have hii : (i : Int) < (ps.length : Int) := by omega
              clear hck hg hbel h22
              go_wp2_with fail
              go_quiet (fail)
              go_wp2_with fail
              go_roundw
              case rel => exact ⟨k + 1, by omega, by go_num, below_drewN HBk.out _⟩
              case measure => simp [intOf]; omega
            · clear hbel
              go_wp2_with fail
              go_roundw
              case rel => exact ⟨i + 1, by omega, by go_num, HBk.out⟩
              case measure => simp [intOf]; omega
    · have HB := hide hbel
      clear hbel
      have hsr := HB.out.size
      obtain ⟨vs, hrd, hrc⟩ := (HR3.out.below HB.out (by omega)).cells
      have HRC := hide hrc
      have hl24 : L.length * 24 ≤ 140737488355328 := by omega
      have HMo3 := hide (HMo.out.below (HB3.out.trans (HB.out.mono (by omega))) (Nat.le_refl _))
      clear hrc
      go_wp2_with fail
      refine (copy_rows _ L vs wr _ hrd HRC.out hl24).mono ?_
      rintro e w4 ⟨v4, rfl, ho4, hb4⟩
      have HB4 := hide (HB3.out.trans ((HB.out.mono (by omega)).trans (hb4.mono (by omega))))
      have HRC4 := hide (HRC.out.below hb4 (by omega))
      have HMo4 := hide (HMo3.out.below hb4 (by omega))
      have HO4 := hide ho4
      have hs4 := hb4.size
      clear ho4 hb4 hrd
      go_wp2_with fail
      refine (cut_ints vm more 6 w4 _ HMo4.out (by omega) (by omega)).mono ?_
      rintro e w' ⟨v5, rfl, hi5, rfl⟩
      generalize List.take (Int.toNat 6) more = m6 at hi5
      have HI5 := hide hi5
      obtain ⟨A5, c5, rfl, _⟩ := hi5.open_
      have hoA := HO4.out.alloc (.cells #[.slice A5 m6.length c5] 23)
      have hbyt : (L.length + 1) * 24 ≤ 140737488355328 := by omega
      have hbase : wr.heap.size ≤ (w4.alloc (.cells #[.slice A5 m6.length c5] 23)).heap.size := by simp; omega
      clear hi5
      go_wp2_with (at_builtin; go_must (refine wpList_append_rd _ rfl _ _ _ rfl wr.heap.size _ _ _ el_rows _ _ _ rfl hoA (w4.heap.size + 1) _ _ _ rfl (Rd.one w4 23 _) (by intro u hu; obtain rfl := List.mem_singleton.1 hu; rfl) hbyt hbase ?_))
      intro v6 w6 hown6 hgr6 _
      have hb46 : Below wr.heap.size w4 w6 := ((Below.refl _ _).alloc (by omega) _).grown hgr6 hbase (own_base hoA)
      have HB6 := hide (HB4.out.trans (hb46.mono (by omega)))
      have hs6 := hb46.size
      have hrc6 := (HRC4.out.below hb46 (by omega)).snoc ((HI5.out.below hb46 (by omega)).more (B' := w1.heap.size) (by omega))
      have HR6 := hide (hrc6.rows hown6 (by omega))
      clear hown6 hgr6 hoA hb46 hrc6
      go_wp2_with fail
      refine (match_mm v6 _ w6 _ HR6.out (Nat.le_refl _)).mono ?_
      rintro e w7 ⟨rfl, hb7⟩
      have HB7 := hide (HB6.out.trans (hb7.mono (by omega)))
      have hs7 := hb7.size
      have hmm := mm_more L m6
      rw [HM.out] at hmm
      obtain ⟨n, HN⟩ : ∃ n, Hid ((mmR (L ++ [m6]) fun _ => false) = n) := ⟨_, hide rfl⟩
      rw [HN.out] at hmm ⊢
      obtain ⟨hmm1, hmm2⟩ := hmm
      clear hb7
      go_wp2_with fail
      refine (wakes19 w7).mono ?_
      rintro e w8 ⟨rfl, hb8⟩
      have HB8 := hide (HB7.out.trans (hb8.mono (by omega)))
      clear hb8
      go_wp2_with fail
      go_ret
      exact ⟨rfl, HB8.out⟩

set_option maxRecDepth 100000 in
theorem lifted (os : Os) (started : os.Started) (H : Type) (enc : TypeId × Value → H) :
    ReturnsInHanded {} Try.checked os 7 .any (Rows.placePairsSpec.pre6 enc Try.prog Try.f7 Rows.placePairsRow.domain false) (Rows.placePairsSpec.post enc Try.prog Try.f7 false true false false) := by
  refine returnsInHanded_of_change (C := Try.checked) own started (by kernel_rfl) Try.func7
    (ChangeSpec.witness6 (enc := enc) (C := Try.checked) false ⟨#[], #[.slice none 0 0, .slice none 0 0], []⟩ 8 (by kernel_rfl) (by kernel_rfl) (by kernel_rfl) (by kernel_rfl)) ?_
  intro W base args ds gs before hval0 hW hcnd _
  have hval : ∀ (j : Nat) t v, Try.f7.params[j]? = some t → args[j]? = some v → Value.okWide Try.prog W .any base t v := hval0
  have hW' := hW
  obtain ⟨p, q, hA0, hV, rfl, hfz, hnd⟩ := hW
  have hA : DataW.TrodAll enc Try.prog W 0 (fun _ => true) true Try.f7.params.toList args.toList ds p := hA0
  rw [Try.params7] at hA hval
  obtain ⟨v0, vs0, d0, ds0, p0, q0, hargs, rfl, rfl, h0, r0⟩ := trodAll_cons hA
  obtain ⟨v1, vs1, d1, ds1, p1, q1, rfl, rfl, rfl, h1, r1⟩ := trodAll_cons r0
  obtain ⟨rfl, rfl, rfl⟩ := trodAll_nil r1
  obtain rfl : args = #[v0, v1] := by cases args; simp_all
  obtain ⟨rfl, rfl⟩ := trodVars_none hV
  obtain ⟨s0, len0, cap0, rfl⟩ := okWide_slice Try.underlying22 (hval 0 22 v0 rfl rfl)
  have k0 := h0
  have lt0 : ∀ x ∈ p0, x.block < W.heap.size := by obtain ⟨m, hm⟩ := k0; exact DataW.trod_lt m _ _ _ hm
  obtain ⟨z0, w0⟩ := read_rows h0
  obtain ⟨s1, len1, cap1, rfl⟩ := okWide_slice Try.underlying23 (hval 1 23 v1 rfl rfl)
  have k1 := h1
  have lt1 : ∀ x ∈ p1, x.block < W.heap.size := by obtain ⟨m, hm⟩ := k1; exact DataW.trod_lt m _ _ _ hm
  obtain ⟨z1, w1, b1⟩ := read_ints h1
  clear hA0 hval0
  refine (walk W _ z0 w0 _ z1 w1 b1).mono fun e W' ⟨he, bel⟩ => ?_
  subst he
  exact ⟨_, rfl, _, _, _, [], _, [], hW', trodAll_mk1 (shut_bool Try.underlying4 _), (trodAll_cons_mk (Below.trod laidOut (by kernel_rfl) (of_decide_eq_true (by kernel_rfl)) k0 bel lt0) (trodAll_cons_mk (Below.trod laidOut (by kernel_rfl) (of_decide_eq_true (by kernel_rfl)) k1 bel lt1) trodAll_mk0)), rfl, bel.frame _, fun h => by cases h⟩

theorem over : Rows.placePairsRow.holds Try.pinned (OpenSpec.ofChange Rows.placePairsSpec) :=
  OpenClaim.holds_of_wide 7 Try.f7 rfl rfl rfl rfl rfl rfl rfl ⟨rfl, rfl, rfl, rfl, rfl⟩ rfl rfl rfl rfl rfl (by kernel_rfl) Try.func7 (by kernel_rfl)
    (of_decide_eq_true (by kernel_rfl)) (by unfold Func.isWrapper; rw [if_neg (of_decide_eq_false (by kernel_rfl))]; exact ⟨rfl, rfl⟩)
    (fun os started H enc _ => lifted os started H enc)

theorem proved : Rows.PlacePairsSaid := over
end Go.Proofs.Ytoicohcomjnnfaa.LawPlacePairs
