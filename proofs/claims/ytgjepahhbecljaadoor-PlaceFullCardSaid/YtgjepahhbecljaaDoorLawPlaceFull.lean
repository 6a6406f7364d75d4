/-
PlaceFull holds: servers that all have all shares make as many pairs as there are of either; a server without shares makes none; one server more stands somewhere between. Conditions: none but the row's own.
-/
import Derived.Test.YtgjepahhbecljaaDoorPairWalk
import Derived.Test.YtgjepahhbecljaaDoorMatching
import Derived.Test.YtgjepahhbecljaaDoorArrEq
import Derived.Test.YtgjepahhbecljaaDoorLawPlaceOrders
namespace Go.Proofs.YtgjepahhbecljaaDoor.LawPlaceFull
open Go Go.RowKit Go.ChangeShapes Go.WideShapes Go.ChangeAt
set_option linter.unusedVariables false
set_option linter.unusedSimpArgs false
set_option maxRecDepth 100000
theorem rowI_len (h : Nat) : (rowI h).length = h := by simp [rowI]
theorem fullL_len (s h : Nat) : (fullL s h).length = s := by simp [fullL]
theorem diag_len (m : Nat) : (diag m).length = m := by simp [diag]
theorem fullL_succ (s h : Nat) : fullL (s + 1) h = fullL s h ++ [rowI h] := by unfold fullL; rw [List.replicate_succ']
theorem full_few (s h : Nat) (hs : s ≤ 7) (hh : h ≤ 7) : Few (fullL s h) := ⟨by rw [fullL_len]; omega, fun r hr => by
  rw [(List.mem_replicate.1 hr).2, rowI_len]; omega⟩
theorem flat2_at : ∀ (ps : List (Int × Int)) (k : Nat) (hk : k < ps.length), (flat2 ps)[k * 2]? = some (.int .i64 ps[k].1) ∧ (flat2 ps)[k * 2 + 1]? = some (.int .i64 ps[k].2)
  | p :: ps, 0, _ => ⟨rfl, rfl⟩
  | p :: ps, k + 1, hk => by
    have h := flat2_at ps k (by simpa using hk)
    have e : flat2 (p :: ps) = .int .i64 p.1 :: .int .i64 p.2 :: flat2 ps := rfl
    rw [e, show (k + 1) * 2 = k * 2 + 2 by omega, show k * 2 + 2 + 1 = (k * 2 + 1) + 2 by omega]
    simpa using h
theorem ins_get (a : List Int) (p : Nat) (x : Int) (hp : p ≤ a.length) (i : Nat) (hi : i < a.length + 1) : (a.take p ++ x :: a.drop p)[i]? = if i < p then a[i]? else if i = p then some x else a[i - 1]? := by
  by_cases h1 : i < p
  · rw [if_pos h1, List.getElem?_append_left (by rw [List.length_take]; omega), List.getElem?_take_of_lt h1]
  · rw [if_neg h1, List.getElem?_append_right (by rw [List.length_take]; omega), List.length_take, Nat.min_eq_left hp]
    by_cases h2 : i = p
    · rw [if_pos h2, h2, Nat.sub_self]; rfl
    · rw [if_neg h2, show i - p = (i - 1 - p) + 1 by omega, List.getElem?_cons_succ, List.getElem?_drop]
      congr 1
      omega
theorem own2_nil {w w8 : World} {g n : Nat} {v v8 : Value} {vs : List Value} {rows : List (List Int)} {o : Obj} (hn : rows.length = n) (ho : w.ownsRow g 53 1 v n vs) (hvs : ∀ i (hi : i < rows.length), ∃ u, vs[i]? = some u ∧ w.ownsRow g 3 1 u rows[i].length (rows[i].map (.int .i64)))
    (h8 : w8.ownsRow g 53 1 v8 (n + 1) (vs ++ [.slice none 0 0])) (hg : (w.alloc o).grownBy w8 v.ownBlock) : Own2 w8 g 53 3 v8 (rows ++ [[]]) := by
  subst hn
  exact Own2.push (w := w.alloc o) (ho.alloc o) (fun i hi => by
    obtain ⟨u, hu, hx⟩ := hvs i hi
    exact ⟨u, hu, hx.alloc _⟩) (by decide) (r := []) (World.ownsRow_nil _ _ _ _) h8 hg
set_option maxHeartbeats 16000000 in
theorem walk (w : World) (ht : Tab w w.heap.size) (a : Int) (ha : -9223372036854775808 ≤ a ∧ a ≤ 9223372036854775807) (b : Int) (hb : -9223372036854775808 ≤ b ∧ b ≤ 9223372036854775807) (idx : List Int) (hi : idx.length = 16) (hbx : Bytes idx) :
    Calls Tryd.prog 13 #[.int .i64 a, .int .i64 b, .agg (u8s idx).toArray] w fun e w' => e = .returned (.bool true) ∧ Below w.heap.size w w' := by
  have HIL := hide hi
  have HT := hide ht
  obtain ⟨s, HS, hs6⟩ : ∃ s : Nat, Hid (within a 7 = (s : Int)) ∧ s ≤ 6 := by
    have h1 : 0 ≤ a % 7 ∧ a % 7 < 7 := ⟨Int.emod_nonneg _ (by omega), Int.emod_lt_of_pos _ (by omega)⟩
    exact ⟨(a % 7).toNat, by unfold Hid within; rw [if_neg (by omega)]; omega, by omega⟩
  obtain ⟨h, HH, hh6⟩ : ∃ s : Nat, Hid (within b 7 = (s : Int)) ∧ s ≤ 6 := by
    have h1 : 0 ≤ b % 7 ∧ b % 7 < 7 := ⟨Int.emod_nonneg _ (by omega), Int.emod_lt_of_pos _ (by omega)⟩
    exact ⟨(b % 7).toNat, by unfold Hid within; rw [if_neg (by omega)]; omega, by omega⟩
  have HWA := hide (fun w' => within_any a 7 w' ha.1 ha.2 (by omega))
  have HWB := hide (fun w' => within_any b 7 w' hb.1 hb.2 (by omega))
  rw [HS.out] at HWA
  rw [HH.out] at HWB
  obtain ⟨m, HMM⟩ : ∃ m, Hid (min s h = m) := ⟨_, hide rfl⟩
  have hmin : min (s : Int) (h : Int) = (m : Int) := by have := HMM.out; omega
  have hm6 : m ≤ 6 := by have := HMM.out; omega
  obtain ⟨KV, HKV⟩ : ∃ x, Hid (Value.agg (u8s idx).toArray = x) := ⟨_, hide rfl⟩
  have HOA := hide (fun (n : Int) (hn : 0 ≤ n ∧ n ≤ 100) w' (h : Tab w' w'.heap.size) => Order_any n idx w' (by omega) hi hbx h)
  rw [HKV.out] at HOA ⊢
  obtain ⟨p, hp, _, HBO⟩ := order_more idx s (by omega)
  obtain ⟨A, HAO⟩ : ∃ x, Hid (orderF (s : Int) idx = x) := ⟨_, hide rfl⟩
  obtain ⟨B, HBB⟩ : ∃ x, Hid (orderF ((s + 1 : Nat) : Int) idx = x) := ⟨_, hide rfl⟩
  have HAL := hide (show A.length = s ∧ ∀ x ∈ A, 0 ≤ x ∧ x < s from by
    obtain ⟨g1, g2, _⟩ := LawPlaceOrders.order_all (s : Int) idx
    rw [HAO.out] at g1 g2
    have e : ordN (s : Int) = s := by unfold ordN; omega
    rw [e] at g1 g2
    exact ⟨g1, g2⟩)
  rw [HAO.out, HBB.out] at HBO
  have HBL := hide (show B.length = s + 1 by rw [HBO, List.length_append, List.length_cons, List.length_take, List.length_drop, HAL.out.1]; omega)
  have HBG := hide (show ∀ i, i < s + 1 → B[i]? = if i < p then A[i]? else if i = p then some (s : Int) else A[i - 1]? from fun i hi => by
    rw [HBO]; exact ins_get A p _ (by rw [HAL.out.1]; exact hp) i (by rw [HAL.out.1]; exact hi))
  have HO1 := hide (fun w' (h : Tab w' w'.heap.size) => HOA.out (s : Int) (by omega) w' h)
  have HO2 := hide (fun w' (h : Tab w' w'.heap.size) => HOA.out ((s : Int) + 1) (by omega) w' h)
  have hB' : orderF ((s : Int) + 1) idx = B := by rw [show (s : Int) + 1 = ((s + 1 : Nat) : Int) by omega]; exact HBB.out
  rw [HAO.out] at HO1
  rw [hB'] at HO2
  clear hB'
  have hl1 := HAL.out.1
  have hl2 := HBL.out
  simp only [hl1] at HO1
  obtain ⟨K1, HK1⟩ : ∃ x, Hid (s + 1 = x) := ⟨_, hide rfl⟩
  rw [HK1.out] at hl2
  simp only [hl2] at HO2
  clear ht hi hbx HBO hl1 hl2 HOA ha hb
  obtain ⟨base, HBS⟩ : ∃ k, Hid (w.heap.size = k) := ⟨_, hide rfl⟩
  rw [HBS.out] at HT ⊢
  go_enter Tryd.func13, Tryd.ntmps13
  go_wp2_with (first
    | (refine wpList_box_key _ rfl idx HKV.out.symm rfl ?_; intro w1 hb1 hw1 hs1; rw [HBS.out] at hb1 hw1 ⊢; have HK := hide hb1; have HW := hide hw1; clear hb1 hw1)
    | (go_at_call 30; refine (HWA.out _).mono ?_; rintro e w2 ⟨rfl, rfl⟩; clear HWA)
    | (go_at_call 30; refine (HWB.out _).mono ?_; rintro e w2 ⟨rfl, rfl⟩))
  clear HWB
  obtain ⟨g1, HG1⟩ : ∃ k, Hid (w1.heap.size = k) := ⟨_, hide rfl⟩
  have hg1 : base ≤ g1 := by have h1 := HBS.out; have h2 := HW.out.size; have h3 := HG1.out; omega
  clear hs1
  go_loopw [7, 8, 9, 10] (fun vo i _ _ wr => ∃ k : Nat, k ≤ s ∧ i = .int .i64 k ∧ Own2 wr g1 53 3 vo (fullL k h) ∧ Below g1 w1 wr) (fun _ i _ _ _ => s - (intOf i).toNat)
  case atStart => exact ⟨0, Nat.zero_le _, by go_num, Own2.nil_ _ _ _ _, Below.refl _ _⟩
  case round =>
    obtain ⟨k, hk, rfl, hown, hbel⟩ := hrel
    have HO := hide hown
    have HB := hide hbel
    clear hown hbel
    have hz1 : g1 ≤ wr.heap.size := by rw [← HG1.out]; exact HB.out.size
    by_cases hks : k < s
    · have hks' : (k : Int) < (s : Int) := by omega
      obtain ⟨wo, rfl⟩ : ∃ wo : World, wo = wr := ⟨_, rfl⟩
      go_wp2_with fail
      go_loopw [9, 10] (fun vr i wr => ∃ j : Nat, j ≤ h ∧ i = .int .i64 j ∧ wr.ownsRow wo.heap.size 3 1 vr j ((rowI j).map (.int .i64)) ∧ Below wo.heap.size wo wr) (fun _ i _ => h - (intOf i).toNat)
      case atStart => exact ⟨0, Nat.zero_le _, by go_num, World.ownsRow_nil _ _ _ _, Below.refl _ _⟩
      case round =>
        obtain ⟨j, hj, rfl, hown, hbel⟩ := hrel
        have hsr := hbel.size
        have HB1 := hide hbel
        have HR1 := hide hown
        clear hbel hown
        by_cases hjh : j < h
        · have hjh' : (j : Int) < (h : Int) := by omega
          have hoA := HR1.out.alloc (.cells #[.int .i64 (j : Int)] 3)
          have hbyt : (j + 1) * 8 ≤ 140737488355328 := by omega
          have hbase : wo.heap.size ≤ (wr.alloc (.cells #[.int .i64 (j : Int)] 3)).heap.size := by rw [alloc_sz]; omega
          go_wp2_with (at_builtin; go_must (refine wpList_append_rd _ rfl _ _ _ rfl wo.heap.size _ _ _ el_ints _ _ _ rfl hoA (wr.heap.size + 1) _ _ _ rfl (Rd.one wr 3 _) (by intro u hu; obtain rfl := List.mem_singleton.1 hu; rfl) hbyt hbase ?_))
          intro v' w3 hown3 hgr _
          have HR3 := hide (show w3.ownsRow wo.heap.size 3 1 v' (j + 1) ((rowI (j + 1)).map (.int .i64)) by rw [rowI_succ, List.map_append]; exact hown3)
          have HB3 := hide ((HB1.out.alloc (by omega) _).grown hgr hbase (own_base hoA))
          clear hown3 hgr hoA hbyt hbase
          go_wp2_with fail
          go_roundw
          case rel => exact ⟨j + 1, by omega, by go_num, HR3.out, HB3.out⟩
          case measure => simp [intOf]; omega
        · obtain rfl : j = h := by omega
          have hjh' : ¬ (j : Int) < (j : Int) := by omega
          obtain ⟨A3, c3, rfl⟩ := own_shape HR1.out
          have HB3 := hide (HB.out.trans (HB1.out.mono hz1))
          obtain ⟨vs', ho, hvs⟩ := HO.out.keptB HB1.out
          rw [fullL_len] at ho
          have HV := hide hvs
          have HR2 := hide (own_more HR1.out hz1)
          have hoA := ho.alloc (.cells #[.slice A3 j c3] 53)
          have hone := hide (own_one HR1.out)
          have hbyt : (k + 1) * 24 ≤ 140737488355328 := by omega
          have hbase : g1 ≤ (wr.alloc (.cells #[.slice A3 j c3] 53)).heap.size := by rw [alloc_sz]; omega
          clear ho hvs
          go_wp2_with (at_builtin; go_must (refine wpList_append_rd _ rfl _ _ _ rfl g1 _ _ _ el_rows _ _ _ rfl hoA (wr.heap.size + 1) _ _ _ rfl (Rd.one wr 53 _) hone.out hbyt hbase ?_))
          intro v' w2 hown2 hgr _
          have HX : Hid (Own2 w2 g1 53 3 v' (fullL (k + 1) j) ∧ Below g1 w1 w2) := by
            have ho1 := own_keptB HR2.out ((Below.refl _ _).alloc (Nat.le_refl _) (.cells #[.slice A3 j c3] 53))
            rw [fullL_succ]
            refine ⟨Own2.push (w := wr.alloc (.cells #[.slice A3 j c3] 53)) (vs := vs') (by rw [fullL_len]; exact hoA) (fun i hi => ?_) (by decide) (by rw [rowI_len]; exact ho1) (by rw [fullL_len]; exact hown2) hgr, ?_⟩
            · obtain ⟨u, hu, hx⟩ := HV.out i hi
              exact ⟨u, hu, hx.alloc _⟩
            · exact (HB3.out.alloc (by omega) _).grown hgr hbase (own_base hoA)
          clear hown2 hgr hoA hbase hbyt
          go_wp2_with fail
          go_roundw
          case rel => exact ⟨k + 1, by omega, by go_num, HX.out.1, HX.out.2⟩
          case measure => simp [intOf]; omega
    · obtain rfl : k = s := by omega
      have hks' : ¬ (k : Int) < (k : Int) := by omega
      have HFW := hide (full_few k h (by omega) (by omega))
      have HPA := hide (pairs_any _ (fullL k h) wr wr.heap.size HO.out.reads (Nat.le_refl _) HFW.out)
      rw [pairs_full k h (by omega), HMM.out] at HPA
      go_wp2_with fail
      refine HPA.out.mono ?_
      rintro e w2 ⟨v2, rfl, hp2, hb2⟩
      have HP := hide hp2
      obtain ⟨A2, c2, rfl⟩ := own_shape hp2
      have HOW := hide (HO.out.keptB hb2)
      have HB2 := hide (HB.out.trans (hb2.mono hz1))
      have hz2 := hb2.size
      have HPR := hide (Rd.of_own hp2)
      clear hp2 hb2 HPA HO HB
      obtain ⟨wp, rfl⟩ : ∃ wo : World, wo = w2 := ⟨_, rfl⟩
      have hdl := diag_len m
      rw [hdl] at HPR ⊢
      clear hdl
      go_wp2_with fail
      go_loopw [47] (fun v47 wr => ∃ i : Nat, v47 = .int .i64 i ∧ i ≤ m ∧ wr = wp) (fun v47 _ => m - (intOf v47).toNat)
      case atStart => exact ⟨0, by go_num, by omega, rfl⟩
      case round =>
        obtain ⟨i, rfl, him, rfl⟩ := hrel
        by_cases hlt : i < m
        · have hlt' : (i : Int) < (m : Int) := by omega
          obtain ⟨b2, o2, hAA, hc1, hc2⟩ : ∃ b2 o2, A2 = some ⟨b2, o2, none⟩ ∧ wr.cell? ⟨b2, o2 + i * 2, none⟩ = some (.int .i64 (i : Int)) ∧ wr.cell? ⟨b2, o2 + i * 2 + 1, none⟩ = some (.int .i64 (i : Int)) := by
            obtain ⟨A', c', hv, _, _, _, h3⟩ := HPR.out
            injection hv with e1 e2 e3
            subst e1
            obtain ⟨b2, o2, rfl, _, hcc⟩ := h3 (by omega)
            have hat := flat2_at (diag m) i (by rw [diag_len]; exact hlt)
            have hd : (diag m)[i]'(by rw [diag_len]; exact hlt) = ((i : Int), (i : Int)) := by simp [diag]
            rw [hd] at hat
            exact ⟨b2, o2, rfl, hcc _ _ hat.1, by rw [Nat.add_assoc]; exact hcc _ _ hat.2⟩
          subst hAA
          have hn := fun W : World => run_neq_arr (P := Tryd.prog) W (t := 61) (e := 3) (len := 2) (k := .i64) Tryd.underlying61 Tryd.underlying3 (by kernel_rfl) [(i : Int), (i : Int)] [(i : Int), (i : Int)] rfl rfl
          simp at hn
          go_wp2_with fail
          go_roundw
          case rel => exact ⟨i + 1, by go_num, by omega, by first | rfl | trivial⟩
          case measure => simp [intOf]; omega
        · obtain rfl : i = m := by omega
          have hlt' : ¬ (i : Int) < (i : Int) := by omega
          have HBW := hide (HW.out.trans (HB2.out.mono hg1))
          have HKW := hide (HK.out.below HB2.out (by have h1 := HK.out.lt; have h2 := HG1.out; omega))
          have hbz : base ≤ wr.heap.size := by have h1 := HBW.out.size; have h2 := HBS.out; omega
          have HTW := hide ((HT.out.below HBW.out (Nat.le_refl _)).more hbz)
          clear HB2 HK HT HP
          go_wp2_with (first
            | (refine wpList_blk_load rfl 23 _ rfl base rfl (u8s idx) HKW.out Tryd.underlying23 rfl (by rw [u8s_len, HIL.out]; exact size_key) ?_; rw [HKV.out])
            | (go_at_call 46; refine (HO1.out wr HTW.out).mono ?_; rintro e w3 ⟨v14, rfl, ho14, hb3⟩; obtain ⟨A14, c14, rfl⟩ := own_shape ho14; have hz3 := hb3.size; have HO14 := hide ho14; have HOW3 := hide (HOW.out.keptB hb3); have HBW3 := hide (HBW.out.trans (hb3.mono hbz)); have HKW3 := hide (HKW.out.below hb3 HKW.out.lt); have HTW3 := hide ((HTW.out.below hb3 (Nat.le_refl _)).more hz3); clear ho14 hb3 HOW HBW HKW HTW HO1)
            | (refine wpList_blk_load rfl 23 _ rfl base rfl (u8s idx) HKW3.out Tryd.underlying23 rfl (by rw [u8s_len, HIL.out]; exact size_key) ?_; rw [HKV.out])
            | (go_at_call 46; refine (HO2.out w3 HTW3.out).mono ?_; rintro e w4 ⟨v15, rfl, ho15, hb4⟩; obtain ⟨A15, c15, rfl⟩ := own_shape ho15; have hz4 := hb4.size; have HO15 := hide (Rd.of_own ho15); have HO14b := hide (Rd.of_own (own_keptB HO14.out hb4)); have HOW4 := hide (HOW3.out.keptB hb4); have HBW4 := hide (HBW3.out.trans (hb4.mono (by omega))); clear ho15 hb4 HO14 HOW3 HBW3 HKW3 HTW3 HO2))
          have hz5 : base ≤ w4.heap.size ∧ g1 ≤ w4.heap.size := by omega
          clear hz3 hz4
          go_loopw [16, 68] (fun v16 v68 wr => ∃ j q : Nat, v68 = .int .i64 j ∧ j ≤ K1 ∧ v16 = .int .i64 q ∧ q = (if j ≤ p then j else j - 1) ∧ Below w4.heap.size w4 wr) (fun _ v68 _ => K1 - (intOf v68).toNat)
          case atStart => exact ⟨0, 0, by go_num, by omega, by go_num, by simp, Below.refl _ _⟩
          case round =>
            obtain ⟨j, q, rfl, hjK, rfl, hq, hbb⟩ := hrel
            have HBBw := hide hbb
            have HQ := hide hq
            clear hbb hq
            have hK1 := HK1.out
            have HK1b := hide hK1
            clear hK1
            by_cases hj : j < K1
            · have hj' : (j : Int) < (K1 : Int) := by omega
              have hjk : j < k + 1 := by have := HK1b.out; omega
              have hgetB := HBG.out j hjk
              obtain ⟨b15, o15, hA15, hcb⟩ : ∃ b15 o15, A15 = some ⟨b15, o15, none⟩ ∧ ∀ u : Int, B[j]? = some u → wr.cell? ⟨b15, o15 + j, none⟩ = some (.int .i64 u) := by
                obtain ⟨A', c', hv, _, _, _, h3⟩ := HO15.out.below HBBw.out
                injection hv with e1 e2 e3
                subst e1
                obtain ⟨b15, o15, rfl, _, hcc⟩ := h3 (by omega)
                exact ⟨b15, o15, rfl, fun u hu => hcc j _ (by rw [List.getElem?_map, hu]; rfl)⟩
              subst hA15
              have HCA := hide (show ∀ q, q < k → ∃ b14 o14, A14 = some ⟨b14, o14, none⟩ ∧ ∃ X : Int, A[q]? = some X ∧ 0 ≤ X ∧ X < k ∧ wr.cell? ⟨b14, o14 + q, none⟩ = some (.int .i64 X) from fun q hq => by
                obtain ⟨A', c', hv, _, _, _, h3⟩ := HO14b.out.below HBBw.out
                injection hv with e1 e2 e3
                subst e1
                obtain ⟨b14, o14, rfl, _, hcc⟩ := h3 (by omega)
                have hql : q < A.length := by rw [HAL.out.1]; exact hq
                have hb := HAL.out.2 _ (List.getElem_mem hql)
                refine ⟨b14, o14, rfl, A[q], List.getElem?_eq_getElem hql, hb.1, hb.2, hcc q _ (by rw [List.getElem?_map, List.getElem?_eq_getElem hql]; rfl)⟩)
              by_cases hjp : j = p
              · have hqp : q = p := by have := HQ.out; rw [if_pos (by omega)] at this; omega
                have HNQ := hide (show q = if j + 1 ≤ p then j + 1 else j + 1 - 1 by rw [if_neg (by omega)]; omega)
                rw [if_neg (by omega), if_pos hjp] at hgetB
                have hcB := hcb _ hgetB
                subst hqp
                clear hcb hgetB HQ
                by_cases hqk : q < k
                · obtain ⟨b14, o14, rfl, X, hX, hX0, hXk, hcA⟩ := HCA.out q hqk
                  have hdq : decide ((q : Int) < (k : Int)) = true := decide_eq_true (by omega)
                  have hne : ((k : Int) == X) = false := by rw [beq_eq_false_iff_ne]; omega
                  clear hX HCA
                  have HJP := hide hjp
                  clear hjp
                  go_upto_region 26 with fail
                  go_quiet (fail)
                  go_wp2_with fail
                  go_roundw
                  case measure => simp [intOf]; omega
                  case rel => exact ⟨j + 1, q, by go_num, by omega, by go_num, HNQ.out, ⟨HBBw.out.os, HBBw.out.tape, HBBw.out.output, HBBw.out.size, HBBw.out.block⟩⟩
                · have hdq : decide ((q : Int) < (k : Int)) = false := decide_eq_false (by omega)
                  have HJP := hide hjp
                  clear hjp HCA
                  go_upto_region 26 with fail
                  go_quiet (fail)
                  go_wp2_with fail
                  go_roundw
                  case measure => simp [intOf]; omega
                  case rel => exact ⟨j + 1, q, by go_num, by omega, by go_num, HNQ.out, ⟨HBBw.out.os, HBBw.out.tape, HBBw.out.output, HBBw.out.size, HBBw.out.block⟩⟩
              · have hqk : q < k := by have h1 := HQ.out; have h2 := HK1b.out; split at h1 <;> omega
                obtain ⟨b14, o14, rfl, X, hX, hX0, hXk, hcA⟩ := HCA.out q hqk
                have hBX : B[j]? = some X := by
                  rw [hgetB, ← hX]
                  have h1 := HQ.out
                  by_cases hlp : j < p
                  · rw [if_pos hlp]; rw [if_pos (by omega)] at h1; rw [h1]
                  · rw [if_neg hlp, if_neg hjp]; rw [if_neg (by omega)] at h1; rw [h1]
                have hcB := hcb _ hBX
                have HNQ := hide (show q + 1 = if j + 1 ≤ p then j + 1 else j + 1 - 1 by
                  have h1 := HQ.out
                  by_cases hlp : j < p
                  · rw [if_pos (by omega)] at h1 ⊢; omega
                  · rw [if_neg (by omega)] at h1 ⊢; omega)
                have hdq : decide ((q : Int) < (k : Int)) = true := decide_eq_true (by omega)
                clear hcb hgetB HQ hX HCA hBX hjp
                go_upto_region 26 with fail
                go_quiet (fail)
                go_wp2_with fail
                go_roundw
                case measure => simp [intOf]; omega
                case rel => exact ⟨j + 1, q + 1, by go_num, by omega, by go_num, HNQ.out, ⟨HBBw.out.os, HBBw.out.tape, HBBw.out.output, HBBw.out.size, HBBw.out.block⟩⟩
            · obtain rfl : j = K1 := by omega
              have hj' : ¬ (j : Int) < (j : Int) := by omega
              have hqk : q = k := by have h1 := HQ.out; have h2 := HK1b.out; rw [if_neg (by omega)] at h1; omega
              subst hqk
              have HOWr := hide (HOW4.out.keptB HBBw.out)
              have HBWr := hide (HBW4.out.trans (HBBw.out.mono hz5.1))
              have hzr := HBWr.out.size
              have hbr : base ≤ wr.heap.size := by have := HBS.out; omega
              have hgr1 : g1 ≤ wr.heap.size := by have h1 := HBBw.out.size; have h2 := hz5.2; omega
              clear HOW4 HBW4 HQ hzr
              have HMA0 := match_mm _ (fullL q h) wr wr.heap.size HOWr.out.reads (Nat.le_refl _)
              rw [mm_fullAll q h (by omega), HMM.out] at HMA0
              have HMA := hide HMA0
              clear HMA0
              go_wp2_with (first
                | go_skip
                | (go_at_call 51; refine HMA.out.mono ?_; rintro e w6 ⟨rfl, hb6⟩; have HOW6 := hide (HOWr.out.keptB hb6); have HBW6 := hide (HBWr.out.trans (hb6.mono hbr)); have hz6 := hb6.size; clear hb6 HMA HOWr HBWr)
                | (show wpList _ _ _ ({ dst := some 108, op := _, type := _, pos := _, after := _, guard := _ } :: _) _ _; obtain ⟨vs6, ho6, hvs6⟩ := HOW6.out; rw [fullL_len] at ho6; refine wpList_go (by kernel_rfl) (fun K hK => wp_append_rd _ _ _ _ rfl g1 _ _ _ el_rows _ q vs6 rfl (ho6.alloc (.cells #[.slice none 0 0] 53)) (w6.heap.size + 1) _ 1 _ rfl (Rd.one w6 53 (.slice none 0 0)) (by intro u hu; obtain rfl := List.mem_singleton.1 hu; rfl) (by omega) (by rw [alloc_sz]; omega) (fun v8 w8 ho8 hg8 _ => hK _ _ ?_)); have HOW8 := hide (own2_nil (fullL_len q h) ho6 hvs6 ho8 hg8); have HBW8 := hide ((HBW6.out.alloc (by omega) _).grown hg8 (by rw [alloc_sz]; omega) (fun k hk => Nat.le_trans hg1 (own_base (ho6.alloc (.cells #[.slice none 0 0] 53)) k hk))); have hz8 := hg8.size; rw [alloc_sz] at hz8; have HMB0 := match_mm v8 (fullL q h ++ [[]]) w8 w8.heap.size HOW8.out.reads (Nat.le_refl _); rw [mm_nil, mm_fullAll q h (by omega), HMM.out] at HMB0; have HMB := hide HMB0; clear HMB0 ho6 hvs6 ho8 hg8 HOW6 HBW6)
                | (go_at_call 51; refine HMB.out.mono ?_; rintro e w9 ⟨rfl, hb9⟩; have HBW9 := hide (HBW8.out.trans (hb9.mono (by omega))); have hz9 := hb9.size; clear hb9 HMB HOW8 HBW8)
                | (go_at_call 49; refine (wakes19 w9).mono ?_; rintro e w10 ⟨rfl, hb10⟩; have HB10 := hide (HBW9.out.trans (hb10.mono (by omega))); clear hb10 HBW9))
              go_ret
              exact ⟨rfl, HB10.out⟩

set_option maxRecDepth 100000 in
theorem lifted (os : Os) (started : os.Started) (H : Type) (enc : TypeId × Value → H) :
    ReturnsInHanded {} Tryd.checked os 13 .any (fun w args => (Rows.placeFullSpec.pre enc Tryd.prog Tryd.f13 [] false w args ∧ laidMetH Tryd.prog laidD w) ∧ sizedMet enc Tryd.prog Tryd.f13 (OpenSpec.ofChange Rows.placeFullSpec) false w args)
      (Rows.placeFullSpec.post enc Tryd.prog Tryd.f13 false true false false) := by
  refine returnsInHanded_of_change_and (C := Tryd.checked) (X := fun w _ => laidMetH Tryd.prog laidD w) (fun _ _ _ hh h => h.of_heap hh) own started (by kernel_rfl) Tryd.func13
    (ChangeSpec.witness_shaped (enc := enc) (C := Tryd.checked) (os := os) (X := fun w _ => laidMetH Tryd.prog laidD w) false (World.doorLaid Tryd.prog doorSteps os) #[.int .i64 0, .int .i64 0, .agg #[.int .u8 0, .int .u8 0, .int .u8 0, .int .u8 0, .int .u8 0, .int .u8 0, .int .u8 0, .int .u8 0, .int .u8 0, .int .u8 0, .int .u8 0, .int .u8 0, .int .u8 0, .int .u8 0, .int .u8 0, .int .u8 0]] 8 rfl (World.shaped_of_RefB (by kernel_rfl) (by kernel_rfl)) (by kernel_rfl) (by kernel_rfl) (by kernel_rfl) (door_met os _)) ?_
  intro W base args ds gs before hval0 hW _ _ hL _
  have hT := tab_of hL
  have hval : ∀ (j : Nat) t v, Tryd.f13.params[j]? = some t → args[j]? = some v → Value.okWide Tryd.prog W .any base t v := hval0
  have hW' := hW
  obtain ⟨p, q, hA0, hV, rfl, hfz, hnd⟩ := hW
  have hA : DataW.TrodAll enc Tryd.prog W 0 (fun _ => true) true Tryd.f13.params.toList args.toList ds p := hA0
  rw [Tryd.params13] at hA hval
  obtain ⟨v0, vs0, d0, ds0, p0, q0, hargs, rfl, rfl, h0, r0⟩ := trodAll_cons hA
  obtain ⟨v1, vs1, d1, ds1, p1, q1, rfl, rfl, rfl, h1, r1⟩ := trodAll_cons r0
  obtain ⟨v2, vs2, d2, ds2, p2, q2, rfl, rfl, rfl, h2, r2⟩ := trodAll_cons r1
  obtain ⟨rfl, rfl, rfl⟩ := trodAll_nil r2
  obtain rfl : args = #[v0, v1, v2] := by cases args; simp_all
  obtain ⟨rfl, rfl⟩ := trodVars_none hV
  obtain ⟨a0, rfl, rfl, rfl, wf0⟩ := open_int Tryd.underlying3 (hval 0 3 v0 rfl rfl) h0
  obtain ⟨a1, rfl, rfl, rfl, wf1⟩ := open_int Tryd.underlying3 (hval 1 3 v1 rfl rfl) h1
  have k2 := h2
  have lt2 : ∀ x ∈ p2, x.block < W.heap.size := by obtain ⟨m, hm⟩ := k2; exact DataW.trod_lt m _ _ _ hm
  obtain ⟨z2, rfl, w2, b2⟩ := read_arr16_key (hval 2 23 v2 rfl rfl) h2
  clear hA0 hval0
  refine (walk W hT a0 (in64_wf wf0) a1 (in64_wf wf1) z2 w2 b2).mono fun e W' ⟨he, bel⟩ => ?_
  subst he
  exact ⟨_, rfl, _, _, _, [], _, [], hW', trodAll_mk1 (shut_bool Tryd.underlying4 _), (trodAll_cons_mk (shut_int Tryd.underlying3 wf0) (trodAll_cons_mk (shut_int Tryd.underlying3 wf1) (trodAll_cons_mk (Below.trod laidOut (by kernel_rfl) (of_decide_eq_true (by kernel_rfl)) k2 bel lt2) trodAll_mk0))), rfl, bel.frame _, fun h => by cases h⟩

theorem over : Rows.placeFullRow.holds Tryd.pinned (OpenSpec.ofChange Rows.placeFullSpec) :=
  OpenClaim.holds_of_wide 13 Tryd.f13 rfl rfl rfl rfl rfl rfl rfl ⟨rfl, rfl, rfl, rfl, rfl⟩ rfl rfl rfl rfl rfl (by kernel_rfl) Tryd.func13 (by kernel_rfl)
    (of_decide_eq_true (by kernel_rfl)) (by unfold Func.isWrapper; rw [if_neg (of_decide_eq_false (by kernel_rfl))]; exact ⟨rfl, rfl⟩)
    (fun os started H enc _ => lifted os started H enc)

theorem proved : Rows.PlaceFullCardSaid :=
  Claim7.holds_tied_plain_at .later [] Rows.placeFullCard.laidKinds true Rows.placeFullCard.stood.harness Rows.placeFullCard.stood.looks
    over (fun _ h => by cases h) (by kernel_rfl) (fun _ h => by cases h) placeFull_row_tie rfl ⟨rfl, rfl⟩ (by kernel_rfl) rfl
    (fun f fn hf hfn => by
      obtain rfl : f = 13 := Option.some.inj ((show Tryd.prog.funcNamed "aumbry/aumbrylaw19.PlaceFull" = some 13 by kernel_rfl).symm.trans hf) |>.symm
      obtain rfl : fn = Tryd.f13 := (Option.some.inj (Tryd.func13.symm.trans hfn)).symm
      exact ⟨by kernel_rfl, fun j t ht => by
        have ht' : Tryd.f13.params[j]? = some t := ht
        rw [Tryd.params13] at ht'
        have hm : t ∈ [3, 3, 23] := by simpa using Array.mem_of_getElem? ht'
        have hall : ([3, 3, 23].all fun u => !Tryd.prog.wantsStandIn u) = true := by kernel_rfl
        exact (show Tryd.prog.wantsStandIn t = false by simpa using List.all_eq_true.1 hall t hm)⟩)
    (by kernel_rfl)
end Go.Proofs.YtgjepahhbecljaaDoor.LawPlaceFull
