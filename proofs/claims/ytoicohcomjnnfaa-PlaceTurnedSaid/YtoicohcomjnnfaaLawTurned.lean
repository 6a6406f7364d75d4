/- P19.2: in whichever order servers and shares stand there are as many pairs; a share twice is one; numbers that are none are nothing. No condition. -/
import Derived.Test.YtoicohcomjnnfaaFrame
import Derived.Test.YtoicohcomjnnfaaWakes19
import Derived.Test.YtoicohcomjnnfaaPairs
import Derived.Test.YtoicohcomjnnfaaSame2
import Derived.Test.YtoicohcomjnnfaaTurnLaw
import Derived.Test.YtoicohcomjnnfaaCopyRows
import Derived.Test.YtoicohcomjnnfaaLawMatches
import Derived.Test.YtoicohcomjnnfaaStep
namespace Go.Proofs.Ytoicohcomjnnfaa.LawPlaceTurned
open Go Go.RowKit Go.ChangeShapes Go.WideShapes Go.ChangeAt Go.Proofs.Ytoicohcomjnnfaa
set_option linter.unusedVariables false

theorem rev_take_succ {α : Type} (l : List α) (d : α) (k : Nat) (hk : k < l.length) : l.reverse.take (k + 1) = l.reverse.take k ++ [l.getD (l.length - 1 - k) d] := by
  rw [List.take_succ_eq_append_getElem (by simpa using hk), getD_eq _ _ _ (by omega)]
  congr 2
  simp

set_option maxRecDepth 100000 in
set_option maxHeartbeats 8000000 in
theorem walk (w : World) (v : Value) (l : List (List Int)) (h : Rows2 w w.heap.size v l) (nn : Int) (hnn : In64 nn) :
    Calls Try.prog 5 #[v, .int .i64 nn] w fun e w' => e = .returned (.bool true) ∧ Below w.heap.size w w' := by
  have H1 := hide (rows_any v l 6 w _ h (Nat.le_refl _) (by omega))
  obtain ⟨hn1, hn2⟩ := hnn
  clear h
  go_enter Try.func5, Try.ntmps5
  go_wp2_with fail
  refine H1.out.mono ?_
  rintro e w1 ⟨v1, rfl, ho, hb1⟩
  have HF := hide (LawPlaceMatches.few_rows l 6 (by omega))
  have hlen : (rowsF l 6).length ≤ 6 := by unfold rowsF; simp; omega
  have hrow : ∀ r ∈ rowsF l 6, r.length ≤ 6 := by
    intro r hr
    unfold rowsF at hr
    obtain ⟨x, _, rfl⟩ := List.mem_map.1 hr
    simp; omega
  generalize rowsF l 6 = L at ho HF hlen hrow
  have HROW := hide hrow
  have HB1 := hide hb1
  have hs1 := hb1.size
  have HR1 := hide ho.reads
  clear ho hb1 hrow
  obtain ⟨A1, c1, rfl, q1, q2, q3⟩ := HR1.out.open_
  unfold maxLen at q2
  have Q3 := hide q3
  clear q3
  go_wp2_with fail
  go_loopw [5, 7, 8, 9] (fun vo i _ _ wr => ∃ k : Nat, k ≤ L.length ∧ i = .int .i64 ((L.length : Int) - 1 - k) ∧ Own2 wr w1.heap.size 23 3 vo ((L.reverse.take k).map List.reverse) ∧ Below w1.heap.size w1 wr) (fun _ i _ _ _ => (intOf i + 1).toNat)
  case atStart => exact ⟨0, Nat.zero_le _, by go_num, Own2.nil_ _ _ _ _, Below.refl _ _⟩
  case round =>
    obtain ⟨k, hk, rfl, hown, hbel⟩ := hrel
    by_cases hlt : k < L.length
    · obtain ⟨b, o, rfl, hbB, hcs⟩ := Q3.out (by omega)
      obtain ⟨t, ht⟩ : ∃ t, L.length - 1 - k = t := ⟨_, rfl⟩
      have htl : t < L.length := by omega
      obtain ⟨u, hc0, hi0⟩ := hcs t htl
      have hti : (L.length : Int) - 1 - k = (t : Int) := by omega
      rw [hti]
      have HTI := hide hti
      have HT := hide ht
      have hc : wr.cell? ⟨b, o + t, none⟩ = some u := (hbel.cell (p := ⟨b, o + t, none⟩) (by simp; omega)).trans hc0
      have hsz0 := hbel.size
      have hrl : L[t].length ≤ 6 := HROW.out _ (List.getElem_mem htl)
      obtain ⟨A2, c2, rfl, g1, g2, g3⟩ := (hi0.below hbel (Nat.le_refl _)).open_
      unfold maxLen at g2
      have G3 := hide g3
      have HO := hide hown
      have HB := hide hbel
      have hst := hide (rev_take_succ L [] k hlt)
      clear hown hbel hcs hc0 hi0 g3 hti ht
      obtain ⟨row, HRW⟩ : ∃ row, Hid (L[t] = row) := ⟨_, hide rfl⟩
      rw [HRW.out] at g1 G3 hrl hc
      obtain ⟨wo, rfl⟩ : ∃ wo : World, wo = wr := ⟨_, rfl⟩
      go_wp2_with fail
      go_loopw [8, 9] (fun vl i wr => ∃ j : Nat, j ≤ row.length ∧ i = .int .i64 ((row.length : Int) - 1 - j) ∧ (∃ g : List Int, g = row.reverse.take j ∧ wr.ownsRow wo.heap.size 3 1 vl g.length (g.map (.int .i64))) ∧ Below wo.heap.size wo wr) (fun _ i _ => (intOf i + 1).toNat)
      case atStart => exact ⟨0, Nat.zero_le _, by go_num, ⟨[], by simp, World.ownsRow_nil _ _ _ _⟩, Below.refl _ _⟩
      case round =>
        obtain ⟨j, hj, rfl, ⟨g, hg, hown⟩, hbel⟩ := hrel
        have HG := hide hg
        clear hg
        have hsr := hbel.size
        have HB1 := hide hbel
        have HO1 := hide hown
        have hc1 : wr.cell? ⟨b, o + t, none⟩ = some (.slice A2 row.length c2) := (hbel.cell (p := ⟨b, o + t, none⟩) (by simp; omega)).trans hc
        clear hbel
        by_cases hjt : j < row.length
        · clear hown
          obtain ⟨s, hs⟩ : ∃ s, row.length - 1 - j = s := ⟨_, rfl⟩
          have hsl : s < row.length := by omega
          have hsi : (row.length : Int) - 1 - j = (s : Int) := by omega
          rw [hsi]
          have HSI := hide hsi
          have HS := hide hs
          have hst2 := hide (rev_take_succ row 0 j hjt)
          obtain ⟨b1, o1, rfl, hb1, hcs⟩ := G3.out (by omega)
          have hc2 : wr.cell? ⟨b1, o1 + s, none⟩ = some (.int .i64 row[s]) := (HB1.out.cell (p := ⟨b1, o1 + s, none⟩) (by simp; omega)).trans (hcs s hsl)
          have hgl : g.length ≤ 6 := by rw [HG.out]; simp; omega
          have hx : row.getD (row.length - 1 - j) 0 = row[s] := by rw [hs, getD_eq _ _ _ hsl]
          have HXX := hide hx
          obtain ⟨x, HX⟩ : ∃ x, Hid (row[s] = x) := ⟨_, hide rfl⟩
          rw [HX.out] at hc2
          clear hcs hs hsi hx
          have hoA := HO1.out.alloc (.cells #[.int .i64 x] 3)
          have hbyt : (g.length + 1) * 8 ≤ 140737488355328 := by omega
          have hbase : wo.heap.size ≤ (wr.alloc (.cells #[.int .i64 x] 3)).heap.size := by simp; omega
          go_wp2_with (at_builtin; go_must (refine wpList_append_rd _ rfl _ _ _ rfl wo.heap.size _ _ _ el_ints _ _ _ rfl hoA (wr.heap.size + 1) _ _ _ rfl (Rd.one wr 3 _) (by intro u hu; obtain rfl := List.mem_singleton.1 hu; rfl) hbyt hbase ?_))
          intro v' w3 hown3 hgr _
          have HO3 := hide (show w3.ownsRow wo.heap.size 3 1 v' (g ++ [x]).length ((g ++ [x]).map (.int .i64)) by simpa using hown3)
          have HB3 := hide ((HB1.out.alloc (by omega) _).grown hgr hbase (own_base hoA))
          clear hown3 hgr hoA
          go_wp2_with fail
          go_roundw
          case rel =>
            refine ⟨j + 1, by omega, congrArg (Value.int .i64) (by have := HSI.out; omega), ⟨g ++ [x], ?_, HO3.out⟩, HB3.out⟩
            rw [hst2.out, HG.out, HXX.out, HX.out]
          case measure => simp [intOf] <;> omega
        · have ej : row.reverse.take j = row.reverse := List.take_of_length_le (by simp; omega)
          have hm1 : (row.length : Int) - 1 - j < 0 := by omega
          have HZ := hide (show (L.reverse.take (k + 1)).map List.reverse = (L.reverse.take k).map List.reverse ++ [g] by
            rw [hst.out, List.map_append, HG.out, ej, ← HRW.out, HT.out, getD_eq _ _ _ htl]
            rfl)
          have hlk : ((L.reverse.take k).map List.reverse).length = k := by simp; omega
          obtain ⟨A3, c3, rfl⟩ := own_shape hown
          have HB3 := hide (HB.out.trans (HB1.out.mono hsz0))
          obtain ⟨vs', ho, hvs⟩ := HO.out.keptB HB1.out
          have HV := hide hvs
          have HO2 := hide (own_more hown hsz0)
          have hoA := ho.alloc (.cells #[.slice A3 g.length c3] 23)
          have hone := hide (own_one hown)
          have hbyt : (((L.reverse.take k).map List.reverse).length + 1) * 24 ≤ 140737488355328 := by omega
          have hbase : w1.heap.size ≤ (wr.alloc (.cells #[.slice A3 g.length c3] 23)).heap.size := by simp; omega
          generalize (L.reverse.take k).map List.reverse = R at *
          clear hlk ej hown ho hvs
          go_wp2_with (at_builtin; go_must (refine wpList_append_rd _ rfl _ _ _ rfl w1.heap.size _ _ _ el_rows _ _ _ rfl hoA (wr.heap.size + 1) _ _ _ rfl (Rd.one wr 23 _) hone.out hbyt hbase ?_))
          intro v' w2 hown2 hgr _
          have HX : Hid (Own2 w2 w1.heap.size 23 3 v' (R ++ [g]) ∧ Below w1.heap.size w1 w2) := by
            have ho1 := own_keptB HO2.out ((Below.refl _ _).alloc (Nat.le_refl _) (.cells #[.slice A3 g.length c3] 23))
            refine ⟨Own2.push (w := wr.alloc (.cells #[.slice A3 g.length c3] 23)) hoA (fun i hi => ?_) (by decide) ho1 hown2 hgr, ?_⟩
            · obtain ⟨u, hu, hx⟩ := HV.out i hi
              exact ⟨u, hu, hx.alloc _⟩
            · exact (HB3.out.alloc (by omega) _).grown hgr hbase (own_base hoA)
          clear hown2 hgr hoA
          go_wp2_with fail
          go_roundw
          case rel => exact ⟨k + 1, by omega, congrArg (Value.int .i64) (by have := HTI.out; omega), by rw [HZ.out]; exact HX.out.1, HX.out.2⟩
          case measure => simp [intOf] <;> omega
    · have hm1 : (L.length : Int) - 1 - k < 0 := by omega
      have e : (L.reverse.take k).map List.reverse = turnedF L := by unfold turnedF; rw [List.take_of_length_le (by simp; omega)]
      rw [e] at hown
      have HOT := hide hown
      have HBT := hide hbel
      clear e hown hbel
      obtain ⟨wt, rfl⟩ : ∃ wt : World, wt = wr := ⟨_, rfl⟩
      go_wp2_with fail
      go_loopw [6, 10, 47] (fun vt _ i wr => ∃ k : Nat, k ≤ L.length ∧ i = .int .i64 k ∧ Own2 wr wt.heap.size 23 3 vt (twiceF (L.take k) (within nn 9)) ∧ Below wt.heap.size wt wr) (fun _ _ i _ => L.length - (intOf i).toNat)
      case atStart => exact ⟨0, Nat.zero_le _, rfl, Own2.nil_ _ _ _ _, Below.refl _ _⟩
      case round =>
        obtain ⟨k', hk', rfl, hown, hbel⟩ := hrel
        have hx1 : 0 ≤ within nn 9 ∧ within nn 9 < 9 := by
          unfold within; rw [if_neg (by omega)]
          exact ⟨Int.emod_nonneg _ (by omega), Int.emod_lt_of_pos _ (by omega)⟩
        obtain ⟨hx1, hx2⟩ := hx1
        have HO := hide hown
        have HB := hide hbel
        have hsz0 := hbel.size
        clear hown hbel
        have HW := hide (fun w => within_any nn 9 w hn1 hn2 (by omega))
        obtain ⟨x, HX⟩ : ∃ x, Hid (within nn 9 = x) := ⟨_, hide rfl⟩
        rw [HX.out] at hx1 hx2 HO HW ⊢
        have hs3 := HBT.out.size
        by_cases hlt' : k' < L.length
        · obtain ⟨b, o, rfl, hbB, hcs⟩ := Q3.out (by omega)
          obtain ⟨u, hc0, hi0⟩ := hcs k' hlt'
          have hbel2 := HBT.out.trans (HB.out.mono hs3)
          have hc : wr.cell? ⟨b, o + k', none⟩ = some u := (hbel2.cell (p := ⟨b, o + k', none⟩) (by simp; omega)).trans hc0
          have hrl : L[k'].length ≤ 6 := HROW.out _ (List.getElem_mem hlt')
          have hi1 := hi0.below hbel2 (Nat.le_refl _)
          obtain ⟨row, HRW⟩ : ∃ row, Hid (L[k'] = row) := ⟨_, hide rfl⟩
          rw [HRW.out] at hrl hi1
          have HI := hide hi1
          have h0k : (0 : Int) ≤ (k' : Int) := by omega
          have hkL : (k' : Int) < (L.length : Int) := by omega
          clear hcs hc0 hi0 hi1 hbel2
          go_wp2_with fail
          have HID := hide (show Ints wr.drew w1.heap.size u row from HI.out)
          have hlk : (twiceF (L.take k') x).length = k' := by simp [twiceF]; omega
          have hlk' : (twiceF (L.take k') x).length ≤ 6 := by omega
          clear hlk
          have hw1 : IntKind.i64.wrap (-1 - x) = -1 - x := IntWalk.i64_in _ (by omega)
          have hw2 : IntKind.i64.wrap (16 + x) = 16 + x := IntWalk.i64_in _ (by omega)
          go_region_held3 (fun w' => w'.cell? ⟨b, o + k', none⟩ = some u) (first | go_keep | exact hc4 | exact hc5 | exact hc6 | exact hc7) (first | (go_at_call 21; (refine (copy_ints u row _ w1.heap.size HID.out (by omega)).mono ?_); rintro e w4 ⟨v4, rfl, ho4, hb4⟩; have HO4 := hide ho4; have hs4 : wr.heap.size ≤ w4.heap.size := hb4.size; have HI4 := hide (HID.out.below hb4 (by simp; omega)); have HB4 := hide (((Below.refl wr.heap.size wr).drew).trans hb4); have hc4 : w4.cell? ⟨b, o + k', none⟩ = some u := (hb4.cell (p := ⟨b, o + k', none⟩) (by simp; omega)).trans hc; clear ho4 hb4) | (refine step_append_rd _ (by rfl) _ _ _ (by rfl) wr.heap.size _ _ _ el_ints _ _ _ (by rfl) HO4.out w1.heap.size _ _ _ (by rfl) HI4.out (ints_one _) (by omega) hs4 ?_; intro v5 w5 ho5 hg5 _; have hb5 := HB4.out.grown hg5 hs4 (own_base HO4.out); have HO5 := hide ho5; have hs5 := hb5.size; have HB5 := hide hb5; have hc5 : w5.cell? ⟨b, o + k', none⟩ = some u := (hb5.cell (p := ⟨b, o + k', none⟩) (by simp; omega)).trans hc; clear ho5 hg5 hb5 HO4 HB4) | (go_at_call 20; (refine (HW.out _).mono ?_); rintro e w' ⟨rfl, rfl⟩) | (have HO5x := HO5; (refine step_append_rd _ (by rfl) _ _ _ (by rfl) wr.heap.size _ _ _ el_ints _ _ _ (by rfl) (HO5.out.alloc (.cells #[.int .i64 (-1 - x), .int .i64 (16 + x)] 3)) (w5.heap.size + 1) _ _ _ (by rfl) (Rd.of_blk (Blk.new w5 3 [.int .i64 (-1 - x), .int .i64 (16 + x)]) (by omega) 1 2 2 rfl (by decide) (by decide)) (by intro u hu; simp at hu; rcases hu with rfl | rfl <;> rfl) (by omega) (by simp; omega) ?_); intro v6 w6 ho6 hg6 _; have hb6 := (HB5.out.alloc (by omega) (.cells #[.int .i64 (-1 - x), .int .i64 (16 + x)] 3)).grown hg6 (by simp; omega) (own_base HO5.out); obtain ⟨A6, c6, rfl⟩ := own_shape ho6; have HO6 := hide ho6; have hs6 := hb6.size; have HB6 := hide hb6; have hc6 : w6.cell? ⟨b, o + k', none⟩ = some u := (hb6.cell (p := ⟨b, o + k', none⟩) (by simp; omega)).trans hc; obtain ⟨vs, HV, HVS⟩ : ∃ vs, Hid (w6.ownsRow wt.heap.size 23 1 u6 (twiceF (L.take k') x).length vs) ∧ Hid (∀ i (hi : i < (twiceF (L.take k') x).length), ∃ u, vs[i]? = some u ∧ w6.ownsRow wt.heap.size 3 1 u (twiceF (L.take k') x)[i].length ((twiceF (L.take k') x)[i].map (.int .i64))) := HO.out.keptB hb6; clear ho6 hg6 hb6 HO5 HB5) | (refine step_append_rd _ (by rfl) _ _ _ (by rfl) wt.heap.size _ _ _ el_rows _ _ _ (by rfl) (HV.out.alloc (.cells #[.slice A6 (row.length + row.length + 2) c6] 23)) (w6.heap.size + 1) _ _ _ (by rfl) (Rd.one w6 23 _) (by intro u hu; obtain rfl := List.mem_singleton.1 hu; rfl) (by omega) (by simp; omega) ?_; intro v7 w7 ho7 hg7 _; have HO7 := hide ho7; have HG7 := hide hg7; have hb7 := (HB6.out.alloc (by omega) (.cells #[.slice A6 (row.length + row.length + 2) c6] 23)); have hc7 : w7.cell? ⟨b, o + k', none⟩ = some u := (((Below.refl wt.heap.size w6).alloc (by omega) _).grown hg7 (by simp; omega) (own_base HV.out)).cell (p := ⟨b, o + k', none⟩) (by simp; omega) |>.trans hc6; clear ho7 hg7 hb7))
          have HTW := hide (show twiceF (L.take (k' + 1)) x = twiceF (L.take k') x ++ [row ++ row ++ [-1 - x, 16 + x]] by
            unfold twiceF
            rw [List.take_succ_eq_append_getElem hlt', List.map_append, HRW.out]
            rfl)
          have HXX : Hid (Own2 w7 wt.heap.size 23 3 v7 (twiceF (L.take (k' + 1)) x) ∧ Below wt.heap.size wt w7) := by
            have hr : w6.ownsRow wr.heap.size 3 1 (.slice A6 (row.length + row.length + 2) c6) (row ++ row ++ [-1 - x, 16 + x]).length ((row ++ row ++ [-1 - x, 16 + x]).map (.int .i64)) := by
              have := HO6.out
              simpa [Nat.add_assoc] using this
            have hal : Below w6.heap.size w6 (w6.alloc (.cells #[.slice A6 (row.length + row.length + 2) c6] 23)) := (Below.refl _ _).alloc (Nat.le_refl _) _
            have ho1 := own_more (own_keptB hr hal) hsz0
            have hv := HV.out.alloc (.cells #[.slice A6 (row.length + row.length + 2) c6] 23)
            rw [HTW.out]
            refine ⟨Own2.push (w := w6.alloc (.cells #[.slice A6 (row.length + row.length + 2) c6] 23)) hv (fun i hi => ?_) (by decide) ho1 HO7.out HG7.out, ?_⟩
            · obtain ⟨u, hu, hx⟩ := HVS.out i hi
              exact ⟨u, hu, hx.alloc _⟩
            · exact ((HB.out.trans (HB6.out.mono hsz0)).alloc (by omega) _).grown HG7.out (by simp; omega) (own_base HV.out)
          go_wp2_with fail
          go_roundw
          case rel => exact ⟨k' + 1, by omega, by go_num, HXX.out.1, HXX.out.2⟩
          case measure => simp [intOf] <;> omega
        · have et : L.take k' = L := List.take_of_length_le (by omega)
          have htw := HO.out
          rw [et] at htw
          have HTW := hide htw.reads
          have HRT := hide ((HOT.out.keptB (HB.out)).reads)
          have HRL := hide ((HR1.out.below HBT.out (Nat.le_refl _)).below HB.out hs3)
          have hmt := mm_turned L
          have hm2 := mm_twice L x hx1
          have hpl := pairsF_len (turnedF L)
          have hm16 := mmR_le L
          obtain ⟨m, HM⟩ : ∃ m, Hid ((mmR L fun _ => false) = m) := ⟨_, hide rfl⟩
          rw [HM.out] at hmt hm2 hm16
          rw [hmt] at hpl
          have HMT := hide hmt
          have HM2 := hide hm2
          have HPL := hide hpl
          have HFT := hide (show Few (turnedF L) from ⟨by rw [turned_len]; omega, fun r hr => by
            unfold turnedF at hr
            obtain ⟨y, hy, rfl⟩ := List.mem_map.1 hr
            have := HROW.out y (by simpa using hy)
            simp; omega⟩)
          have HBW := hide (HB1.out.trans ((HBT.out.mono hs1).trans (HB.out.mono (by omega))))
          have hmm : ((m : Int) == (m : Int)) = true := by simp
          clear et htw hmt hm2 hpl
          go_wp2_with fail
          refine (match_mm _ L wr _ HRL.out (by omega)).mono ?_
          rintro e w4 ⟨rfl, hb4⟩
          rw [HM.out]
          have HB4 := hide (HBW.out.trans (hb4.mono (by omega)))
          have hs4 := hb4.size
          have HRT4 := hide (HRT.out.below hb4 (Nat.le_refl _))
          have HTW4 := hide (HTW.out.below hb4 (Nat.le_refl _))
          clear hb4
          go_wp2_with fail
          refine (match_mm _ (turnedF L) w4 _ HRT4.out hs4).mono ?_
          rintro e w5 ⟨rfl, hb5⟩
          rw [HMT.out]
          have HB5 := hide (HB4.out.trans (hb5.mono (by omega)))
          have hs5 := hb5.size
          have HRT5 := hide (HRT4.out.below hb5 hs4)
          have HTW5 := hide (HTW4.out.below hb5 hs4)
          clear hb5
          go_wp2_with fail
          refine (match_mm _ (twiceF L x) w5 _ HTW5.out (by omega)).mono ?_
          rintro e w6 ⟨rfl, hb6⟩
          rw [HM2.out]
          have HB6 := hide (HB5.out.trans (hb6.mono (by omega)))
          have hs6 := hb6.size
          have HRT6 := hide (HRT5.out.below hb6 (by omega))
          clear hb6
          go_wp2_with fail
          refine (pairs_any _ (turnedF L) w6 _ HRT6.out (by omega) HFT.out).mono ?_
          rintro e w7 ⟨v7, rfl, ho7, hb7⟩
          have HB7 := hide (HB6.out.trans (hb7.mono (by omega)))
          have hs7 := hb7.size
          obtain ⟨A7, c7, rfl⟩ := own_shape ho7
          have hpm : (((pairsF (turnedF L)).length : Int) == (m : Int)) = true := by rw [HPL.out]; simp
          clear hb7 ho7
          go_wp2_with fail
          refine (match_mm _ [] w7 w7.heap.size (Rows2.of_vals (vs := []) (Rd.nil_ _ _ _) (fun i hi => by simp at hi)) (Nat.le_refl _)).mono ?_
          rintro e w8 ⟨rfl, hb8⟩
          have HB8 := hide (HB7.out.trans (hb8.mono (by omega)))
          have hs8 := hb8.size
          have e0 : (mmR [] fun _ => false) = 0 := rfl
          rw [e0]
          clear hb8 e0
          go_wp2_with fail
          refine (wakes19 w8).mono ?_
          rintro e w9 ⟨rfl, hb9⟩
          have HB9 := hide (HB8.out.trans (hb9.mono (by omega)))
          clear hb9
          go_wp2_with fail
          go_ret
          exact ⟨rfl, HB9.out⟩

set_option maxRecDepth 100000 in
theorem lifted (os : Os) (started : os.Started) (H : Type) (enc : TypeId × Value → H) :
    ReturnsInHanded {} Try.checked os 5 .any (Rows.placeTurnedSpec.pre6 enc Try.prog Try.f5 Rows.placeTurnedRow.domain false) (Rows.placeTurnedSpec.post enc Try.prog Try.f5 false true false false) := by
  refine returnsInHanded_of_change (C := Try.checked) own started (by kernel_rfl) Try.func5
    (ChangeSpec.witness6 (enc := enc) (C := Try.checked) false ⟨#[], #[.slice none 0 0, .int .i64 0], []⟩ 8 (by kernel_rfl) (by kernel_rfl) (by kernel_rfl) (by kernel_rfl)) ?_
  intro W base args ds gs before hval0 hW hcnd _
  have hval : ∀ (j : Nat) t v, Try.f5.params[j]? = some t → args[j]? = some v → Value.okWide Try.prog W .any base t v := hval0
  have hW' := hW
  obtain ⟨p, q, hA0, hV, rfl, hfz, hnd⟩ := hW
  have hA : DataW.TrodAll enc Try.prog W 0 (fun _ => true) true Try.f5.params.toList args.toList ds p := hA0
  rw [Try.params5] at hA hval
  obtain ⟨v0, vs0, d0, ds0, p0, q0, hargs, rfl, rfl, h0, r0⟩ := trodAll_cons hA
  obtain ⟨v1, vs1, d1, ds1, p1, q1, rfl, rfl, rfl, h1, r1⟩ := trodAll_cons r0
  obtain ⟨rfl, rfl, rfl⟩ := trodAll_nil r1
  obtain rfl : args = #[v0, v1] := by cases args; simp_all
  obtain ⟨rfl, rfl⟩ := trodVars_none hV
  obtain ⟨s0, len0, cap0, rfl⟩ := okWide_slice Try.underlying22 (hval 0 22 v0 rfl rfl)
  have k0 := h0
  have lt0 : ∀ x ∈ p0, x.block < W.heap.size := by obtain ⟨m, hm⟩ := k0; exact DataW.trod_lt m _ _ _ hm
  obtain ⟨z0, w0⟩ := read_rows h0
  obtain ⟨a1, rfl, rfl, rfl, wf1⟩ := open_int Try.underlying3 (hval 1 3 v1 rfl rfl) h1
  clear hA0 hval0
  refine (walk W _ z0 w0 a1 (in64_wf wf1)).mono fun e W' ⟨he, bel⟩ => ?_
  subst he
  exact ⟨_, rfl, _, _, _, [], _, [], hW', trodAll_mk1 (shut_bool Try.underlying4 _), (trodAll_cons_mk (Below.trod laidOut (by kernel_rfl) (of_decide_eq_true (by kernel_rfl)) k0 bel lt0) (trodAll_cons_mk (shut_int Try.underlying3 wf1) trodAll_mk0)), rfl, bel.frame _, fun h => by cases h⟩

theorem over : Rows.placeTurnedRow.holds Try.pinned (OpenSpec.ofChange Rows.placeTurnedSpec) :=
  OpenClaim.holds_of_wide 5 Try.f5 rfl rfl rfl rfl rfl rfl rfl ⟨rfl, rfl, rfl, rfl, rfl⟩ rfl rfl rfl rfl rfl (by kernel_rfl) Try.func5 (by kernel_rfl)
    (of_decide_eq_true (by kernel_rfl)) (by unfold Func.isWrapper; rw [if_neg (of_decide_eq_false (by kernel_rfl))]; exact ⟨rfl, rfl⟩)
    (fun os started H enc _ => lifted os started H enc)

theorem proved : Rows.PlaceTurnedSaid := over
end Go.Proofs.Ytoicohcomjnnfaa.LawPlaceTurned
