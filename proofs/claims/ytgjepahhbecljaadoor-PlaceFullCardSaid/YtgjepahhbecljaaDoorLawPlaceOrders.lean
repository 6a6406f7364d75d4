/-
PlaceOrders holds: the order of servers for an index is the document's; all of them, each once. Conditions: none but the row's own.
-/
import Derived.Test.YtgjepahhbecljaaDoorOrderBoth
import Derived.Test.YtgjepahhbecljaaDoorMatching
import Derived.Test.YtgjepahhbecljaaDoorTied
namespace Go.Proofs.YtgjepahhbecljaaDoor.LawPlaceOrders
open Go Go.RowKit Go.ChangeShapes Go.WideShapes Go.ChangeAt
set_option linter.unusedVariables false
set_option linter.unusedSimpArgs false
set_option maxRecDepth 100000
theorem zero_seen : (Tryd.prog.info? 56).map (·.zero) = some (some (.agg ((List.replicate 8 false).map Value.bool).toArray)) := by kernel_rfl
/-- All servers, each once. -/
theorem order_all (n : Int) (idx : List Int) : (orderF n idx).length = ordN n ∧ (∀ x ∈ orderF n idx, 0 ≤ x ∧ x < ordN n) ∧ (orderF n idx).Nodup := by
  have hp := (Heap.ordT_perm (ordH idx) (ordN n)).map Prod.fst
  have e : (Heap.allT (ordH idx) (ordN n)).map Prod.fst = (List.range (ordN n)).map fun (i : Nat) => (i : Int) := by
    unfold Heap.allT
    rw [List.map_map]
    rfl
  rw [e] at hp
  refine ⟨by rw [orderF, List.length_map, Heap.ordT_len], fun x hx => ?_, ?_⟩
  · obtain ⟨i, hi, rfl⟩ := List.mem_map.1 (hp.mem_iff.1 hx)
    have := List.mem_range.1 hi
    omega
  · refine hp.nodup_iff.2 ?_
    rw [List.Nodup, List.pairwise_map]
    exact (List.nodup_range (n := ordN n)).imp fun {a b} hab he => hab (by omega)
theorem nodup_at {L : List Int} (h : L.Nodup) (i : Nat) (hi : i < L.length) : L[i] ∉ L.take i := fun hm => by
  obtain ⟨j, hj, e⟩ := List.getElem_of_mem hm
  rw [List.length_take] at hj
  rw [List.getElem_take] at e
  exact absurd ((List.getElem_inj h).1 e) (by omega)
theorem getD_setB (l : List Bool) (i j : Nat) (a : Bool) (h : i < l.length) : (l.set i a).getD j false = if i = j then a else l.getD j false := by
  rw [List.getD_eq_getElem?_getD, List.getElem?_set]
  by_cases e : i = j
  · rw [if_pos e, if_pos e, if_pos (by omega)]; rfl
  · rw [if_neg e, if_neg e, List.getD_eq_getElem?_getD]
set_option maxHeartbeats 8000000 in
theorem walk (w : World) (ht : Tab w w.heap.size) (n : Int) (hn : -9223372036854775808 ≤ n ∧ n ≤ 9223372036854775807) (idx : List Int) (hi : idx.length = 16) (hb : Bytes idx) :
    Calls Tryd.prog 12 #[.int .i64 n, .agg (u8s idx).toArray] w fun e w' => e = .returned (.bool true) ∧ Below w.heap.size w w' := by
  have HIL := hide hi
  have HT := hide ht
  obtain ⟨ga, gb, gc⟩ := order_all n idx
  have HOA := hide (fun w' (h : Tab w' w'.heap.size) => Order_any n idx w' hn hi hb h)
  have HOR := hide (fun w' => Order_ref n idx w' hn hi hb)
  obtain ⟨m, HM⟩ : ∃ m, Hid (ordN n = m) := ⟨_, hide rfl⟩
  have hm8 : m ≤ 8 := by rw [← HM.out]; unfold ordN; omega
  have hmx : min (max n 0) 8 = (m : Int) := by rw [← HM.out]; unfold ordN; omega
  obtain ⟨L, HL⟩ : ∃ x, Hid (orderF n idx = x) := ⟨_, hide rfl⟩
  rw [HL.out, HM.out] at ga
  rw [HL.out] at gb gc HOA HOR
  rw [HM.out] at gb
  simp only [ga] at HOA
  have HLN := hide ga
  have HLM := hide gb
  have HLD := hide gc
  obtain ⟨KV, HKV⟩ : ∃ x, Hid (Value.agg (u8s idx).toArray = x) := ⟨_, hide rfl⟩
  rw [HKV.out] at HOA HOR ⊢
  obtain ⟨base, HBS⟩ : ∃ k, Hid (w.heap.size = k) := ⟨_, hide rfl⟩
  rw [HBS.out] at HT ⊢
  clear ht hi hb ga gb gc
  go_enter Tryd.func12, Tryd.ntmps12
  go_wp2_with (first
    | (refine wpList_box_key _ rfl idx HKV.out.symm rfl ?_; intro w1 hb1 hw1 hs1; rw [HBS.out] at hb1 hw1 ⊢; have HK := hide hb1; have HW := hide hw1; have HT1 := hide ((HT.out.below HW.out (Nat.le_refl _)).more (by have := HBS.out; have := hw1.size; omega : base ≤ w1.heap.size)); clear hb1 hw1)
    | (refine wpList_blk_load rfl 23 _ rfl base rfl (u8s idx) HK.out Tryd.underlying23 rfl (by rw [u8s_len, HIL.out]; exact size_key) ?_; rw [HKV.out])
    | (go_at_call 46; refine (HOA.out w1 HT1.out).mono ?_; rintro e w2 ⟨v1, rfl, ho1, hb2⟩; obtain ⟨A1, c1, rfl⟩ := own_shape ho1; have hs2 := hb2.size; replace HK := hide (HK.out.below hb2 HK.out.lt); have HW2 := hide (HW.out.trans (hb2.mono (by have := HBS.out; have := HW.out.size; omega))); have HO := hide ho1; clear ho1 hb2 HW)
    | (go_at_call 48; refine (HOR.out w2).mono ?_; rintro e w3 ⟨v2, rfl, hi3, hb3⟩; have hs3 := hb3.size; have HW3 := hide (HW2.out.trans (hb3.mono (by have := HBS.out; have := HW2.out.size; omega))); have HO3 := hide (own_keptB HO.out hb3); have HI3 := hide hi3; clear hi3 hb3 HW2 HO)
    | (go_at_call 47; refine (same_ints _ v2 L L w3 w3.heap.size (Ints.of_own HO3.out) HI3.out (Nat.le_refl _)).mono ?_; rintro e w4 ⟨rfl, hb4⟩; rw [show decide (L = L) = true from decide_eq_true rfl]; have hs4 := hb4.size; have HW4 := hide (HW3.out.trans (hb4.mono (by have := HBS.out; have := HW3.out.size; omega))); have HO4 := hide (own_keptB HO3.out hb4); clear hb4 HW3 HO3 HI3)
    | (refine wpList_alloc_blk rfl 56 rfl ((List.replicate 8 false).map Value.bool) zero_seen ?_; intro w5 hb5 hw5 hs5; have HSN := hide hb5; have HW5 := hide (HW4.out.trans (hw5.mono (by have := HBS.out; have := HW4.out.size; omega))); have HO5 := hide (Ints.of_own HO4.out |>.below hw5 (Nat.le_refl _)); clear hb5 hw5 HW4))
  obtain ⟨gs, HGS⟩ : ∃ k, Hid (w4.heap.size = k) := ⟨_, hide rfl⟩
  have hbg : base ≤ gs := by have h1 := hs5; have h2 := HW5.out.size; have h3 := HGS.out; have h4 := HBS.out; omega
  rw [HGS.out] at HSN HO5 ⊢
  go_loopw [19] (fun v19 wr => ∃ (i : Nat) (bs : List Bool), v19 = .int .i64 i ∧ i ≤ m ∧ bs.length = 8 ∧ Blk wr gs 56 (bs.map .bool) ∧ (∀ x : Nat, x < 8 → bs.getD x false = decide ((x : Int) ∈ L.take i)) ∧ Below gs w5 wr) (fun v19 _ => m - (intOf v19).toNat)
  case atStart => exact ⟨0, List.replicate 8 false, by go_num, by omega, by simp, HSN.out, fun x hx => by rw [List.getD_eq_getElem?_getD, List.getElem?_replicate, if_pos hx]; simp, Below.refl _ _⟩
  case round =>
    obtain ⟨i, bs, rfl, him, hbl, hbs, hmem, hbb⟩ := hrel
    have HBL := hide hbl
    have HB := hide hbs
    have HME := hide hmem
    have HBB := hide hbb
    clear hbl hbs hmem hbb HSN hs1 hs2 hs3 hs4 hs5
    by_cases hlt : i < m
    · have hiL : i < L.length := by rw [HLN.out]; exact hlt
      obtain ⟨X, HX⟩ : ∃ X : Nat, Hid (L[i] = (X : Int)) := ⟨L[i].toNat, by have := HLM.out _ (List.getElem_mem hiL); unfold Hid; omega⟩
      have hX : X < m := by have := HLM.out _ (List.getElem_mem hiL); rw [HX.out] at this; omega
      have hX8 : X < 8 := by omega
      have hx0 : ¬ (X : Int) < 0 := by omega
      have hx8 : ¬ (8 : Int) ≤ (X : Int) := by omega
      have hx8' : (X : Int) < 8 := by omega
      have hi1 : (i : Int) < (m : Int) := by omega
      obtain ⟨A', c', hv, _, _, h3⟩ := (HO5.out.below HBB.out (Nat.le_refl _)).open_
      injection hv with e1 e2 e3
      subst e1
      obtain ⟨b, o, rfl, _, hc⟩ := h3 (by omega)
      replace hc := hc i hiL
      rw [HX.out] at hc
      have hnot : (X : Int) ∉ L.take i := by rw [← HX.out]; exact nodup_at HLD.out i hiL
      have hcs := blk_bool HB.out X false (by rw [HBL.out]; exact hX8) (by rw [HME.out X hX8, decide_eq_false hnot])
      have hfs := HB.out.frozen X
      have HNB := hide (show ∀ x : Nat, x < 8 → (bs.set X true).getD x false = decide ((x : Int) ∈ L.take (i + 1)) from fun x hx => by
        rw [getD_setB _ _ _ _ (by rw [HBL.out]; exact hX8), List.take_succ_eq_append_getElem hiL, HX.out]
        by_cases e : X = x
        · subst e
          rw [if_pos rfl]
          simp
        · rw [if_neg e, HME.out x hx]
          congr 1
          simp only [List.mem_append, List.mem_singleton, eq_iff_iff]
          constructor
          · exact fun h => .inl h
          · rintro (h | h)
            · exact h
            · omega)
      clear h3 hnot
      try clear e2
      try clear e3
      go_wp2_with go_skip
      go_roundw
      case measure => simp [intOf]; omega
      case rel => exact ⟨i + 1, bs.set X true, by go_num, by omega, by rw [List.length_set]; exact HBL.out, by rw [List.map_set]; exact HB.out.set_ X (.bool true), HNB.out, HBB.out.setCell (Nat.le_refl _) _⟩
    · obtain rfl : i = m := by omega
      have hi1 : ¬ (i : Int) < (i : Int) := by omega
      have HBW := hide (HW5.out.trans (HBB.out.mono hbg))
      have hbw := HBW.out.size
      rw [HBS.out] at hbw
      go_wp2_with (first
        | go_skip
        | (go_at_call 49; refine (wakes19 wr).mono ?_; rintro e w6 ⟨rfl, hb6⟩; have HB6 := hide (HBW.out.trans (hb6.mono hbw)); clear hb6))
      go_ret
      exact ⟨rfl, HB6.out⟩

set_option maxRecDepth 100000 in
theorem lifted (os : Os) (started : os.Started) (H : Type) (enc : TypeId × Value → H) :
    ReturnsInHanded {} Tryd.checked os 12 .any (fun w args => (Rows.placeOrdersSpec.pre enc Tryd.prog Tryd.f12 [] false w args ∧ laidMetH Tryd.prog laidD w) ∧ sizedMet enc Tryd.prog Tryd.f12 (OpenSpec.ofChange Rows.placeOrdersSpec) false w args)
      (Rows.placeOrdersSpec.post enc Tryd.prog Tryd.f12 false true false false) := by
  refine returnsInHanded_of_change_and (C := Tryd.checked) (X := fun w _ => laidMetH Tryd.prog laidD w) (fun _ _ _ hh h => h.of_heap hh) own started (by kernel_rfl) Tryd.func12
    (ChangeSpec.witness_shaped (enc := enc) (C := Tryd.checked) (os := os) (X := fun w _ => laidMetH Tryd.prog laidD w) false (World.doorLaid Tryd.prog doorSteps os) #[.int .i64 0, .agg #[.int .u8 0, .int .u8 0, .int .u8 0, .int .u8 0, .int .u8 0, .int .u8 0, .int .u8 0, .int .u8 0, .int .u8 0, .int .u8 0, .int .u8 0, .int .u8 0, .int .u8 0, .int .u8 0, .int .u8 0, .int .u8 0]] 8 rfl (World.shaped_of_RefB (by kernel_rfl) (by kernel_rfl)) (by kernel_rfl) (by kernel_rfl) (by kernel_rfl) (door_met os _)) ?_
  intro W base args ds gs before hval0 hW _ _ hL _
  have hT := tab_of hL
  have hval : ∀ (j : Nat) t v, Tryd.f12.params[j]? = some t → args[j]? = some v → Value.okWide Tryd.prog W .any base t v := hval0
  have hW' := hW
  obtain ⟨p, q, hA0, hV, rfl, hfz, hnd⟩ := hW
  have hA : DataW.TrodAll enc Tryd.prog W 0 (fun _ => true) true Tryd.f12.params.toList args.toList ds p := hA0
  rw [Tryd.params12] at hA hval
  obtain ⟨v0, vs0, d0, ds0, p0, q0, hargs, rfl, rfl, h0, r0⟩ := trodAll_cons hA
  obtain ⟨v1, vs1, d1, ds1, p1, q1, rfl, rfl, rfl, h1, r1⟩ := trodAll_cons r0
  obtain ⟨rfl, rfl, rfl⟩ := trodAll_nil r1
  obtain rfl : args = #[v0, v1] := by cases args; simp_all
  obtain ⟨rfl, rfl⟩ := trodVars_none hV
  obtain ⟨a0, rfl, rfl, rfl, wf0⟩ := open_int Tryd.underlying3 (hval 0 3 v0 rfl rfl) h0
  have k1 := h1
  have lt1 : ∀ x ∈ p1, x.block < W.heap.size := by obtain ⟨m, hm⟩ := k1; exact DataW.trod_lt m _ _ _ hm
  obtain ⟨z1, rfl, w1, b1⟩ := read_arr16_key (hval 1 23 v1 rfl rfl) h1
  clear hA0 hval0
  refine (walk W hT a0 (in64_wf wf0) z1 w1 b1).mono fun e W' ⟨he, bel⟩ => ?_
  subst he
  exact ⟨_, rfl, _, _, _, [], _, [], hW', trodAll_mk1 (shut_bool Tryd.underlying4 _), (trodAll_cons_mk (shut_int Tryd.underlying3 wf0) (trodAll_cons_mk (Below.trod laidOut (by kernel_rfl) (of_decide_eq_true (by kernel_rfl)) k1 bel lt1) trodAll_mk0)), rfl, bel.frame _, fun h => by cases h⟩

theorem over : Rows.placeOrdersRow.holds Tryd.pinned (OpenSpec.ofChange Rows.placeOrdersSpec) :=
  OpenClaim.holds_of_wide 12 Tryd.f12 rfl rfl rfl rfl rfl rfl rfl ⟨rfl, rfl, rfl, rfl, rfl⟩ rfl rfl rfl rfl rfl (by kernel_rfl) Tryd.func12 (by kernel_rfl)
    (of_decide_eq_true (by kernel_rfl)) (by unfold Func.isWrapper; rw [if_neg (of_decide_eq_false (by kernel_rfl))]; exact ⟨rfl, rfl⟩)
    (fun os started H enc _ => lifted os started H enc)

theorem proved : Rows.PlaceOrdersCardSaid :=
  Claim7.holds_tied_plain_at .later [] Rows.placeOrdersCard.laidKinds true Rows.placeOrdersCard.stood.harness Rows.placeOrdersCard.stood.looks
    over (fun _ h => by cases h) (by kernel_rfl) (fun _ h => by cases h) placeOrders_row_tie rfl ⟨rfl, rfl⟩ (by kernel_rfl) rfl
    (fun f fn hf hfn => by
      obtain rfl : f = 12 := Option.some.inj ((show Tryd.prog.funcNamed "aumbry/aumbrylaw19.PlaceOrders" = some 12 by kernel_rfl).symm.trans hf) |>.symm
      obtain rfl : fn = Tryd.f12 := (Option.some.inj (Tryd.func12.symm.trans hfn)).symm
      exact ⟨by kernel_rfl, fun j t ht => by
        have ht' : Tryd.f12.params[j]? = some t := ht
        rw [Tryd.params12] at ht'
        have hm : t ∈ [3, 23] := by simpa using Array.mem_of_getElem? ht'
        have hall : ([3, 23].all fun u => !Tryd.prog.wantsStandIn u) = true := by kernel_rfl
        exact (show Tryd.prog.wantsStandIn t = false by simpa using List.all_eq_true.1 hall t hm)⟩)
    (by kernel_rfl)
end Go.Proofs.YtgjepahhbecljaaDoor.LawPlaceOrders
