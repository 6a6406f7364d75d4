/- msgs.Said: the reply of bytes. Condition: the table of powers of ten stands; at most 2^40 bytes. -/
import Derived.Test.YtfinfkodjkfibaaDoorMsgSay
import Derived.Test.YtfinfkodjkfibaaDoorReaders
import Derived.Test.YtfinfkodjkfibaaDoorStruct
import Derived.Test.YtfinfkodjkfibaaDoorEqual
namespace Go.Proofs.YtfinfkodjkfibaaDoor
open Go Go.RowKit
set_option linter.unusedVariables false
set_option linter.unusedSimpArgs false
set_option maxRecDepth 100000
/-- What Said answers. -/
def SaidRes (w w' : World) (e : Ending) (r : Option (Int × List Msg.Blb)) : Prop :=
  (∃ v E l, r = some (E, l) ∧ e = .returned (.tuple #[.agg #[.int .i64 E, v], .bool true]) ∧ BlbsB w' w'.heap.size v l ∧ Below w.heap.size w w') ∨
  (r = none ∧ e = .returned (.tuple #[.agg #[.int .i64 0, .slice none 0 0], .bool false]) ∧ Below w.heap.size w w')
theorem size_reply : (Tryd.prog.info? 25).map (·.size) = some 2 := by kernel_rfl
theorem zero_reply : (Tryd.prog.info? 25).map (·.zero) = some (some (.agg [Value.int .i64 0, .slice none 0 0].toArray)) := by kernel_rfl
theorem built_reply (E : Int) (A : Option Addr) (n c : Nat) : Tryd.prog.built 25 [(0, .int .i64 E), (1, .slice A n c)] = some [Value.int .i64 E, .slice A n c].toArray := by kernel_rfl
theorem built_reply0 : Tryd.prog.built 25 [] = some [Value.int .i64 0, .slice none 0 0].toArray := by kernel_rfl
theorem built_reader (A : Option Addr) (n c : Nat) : Tryd.prog.built 69 [(0, .slice A n c)] = some [Value.slice A n c, .bool false].toArray := by kernel_rfl
theorem reply_one (E : Int) (A : Option Addr) (n c : Nat) : ∀ x ∈ [Value.int .i64 E, .slice A n c], x.oneCell' = true := two_one rfl rfl
theorem blobsP_right {s : Msg.St} (hb : Bytes s.b) (h : (Msg.blobsP s).2.bad = false) : Msg.RightB (Msg.blobsP s).1 := (Msg.blobs_well hb h).2
theorem OwnBlbs.past {w w' : World} {base g : Nat} {t : TypeId} {a b v : Value} {l : List Msg.Blb} (h : OwnBlbs w base v l) (hk : Blk w g t [a, b]) (ha : ∀ n, a ≠ .int .u8 n) (hb : ∀ n, b ≠ .int .u8 n) (hg : w.grownBy w' (some g)) (hgb : g < base) (hB : base ≤ w.heap.size) : OwnBlbs w' base v l := by
  obtain ⟨us, hl, h1, h2⟩ := h
  refine ⟨us, hl, h1.kept hg (.inr (by intro e; have := own_base h1 g e; omega)), fun i hi => ?_⟩
  obtain ⟨u, hu, hx⟩ := h2 i hi
  refine ⟨u, hu, ?_⟩
  rcases hx with hx | hx
  · exact .inl (Bs.past hx hB hg hk ha hb)
  · exact .inr (hx.kept hg (.inr (by intro e; have := (hx.base_ g e).1; omega)))
theorem int_no {E : Int} : ∀ m, Value.int .i64 E ≠ .int .u8 m := fun _ h => by cases h
set_option maxHeartbeats 4000000
theorem Said_any (v : Value) (b : List Int) (w : World) (hv : Bs w w.heap.size v b) (hb : Bytes b) (hl : b.length ≤ 1099511627776) (ht : Tab w w.heap.size) :
    Calls Tryd.prog 13 #[v] w fun e w' => SaidRes w w' e (Msg.saidP b) := by
  have HV := hide hv
  have HT := hide ht
  have HBY := hide hb
  have HL := hide hl
  obtain ⟨A, c, rfl, h1, h2, _⟩ := hv.open_
  obtain ⟨r, hr⟩ : ∃ r, Msg.saidP b = r := ⟨_, rfl⟩
  rw [hr]
  have hsp : r = if (Msg.blobsP (Msg.numP 1 ⟨b, false⟩).2).2.bad = true ∨ 17 < (Msg.numP 1 ⟨b, false⟩).1 then none
      else if Msg.sayF (Msg.numP 1 ⟨b, false⟩).1 (Msg.blobsP (Msg.numP 1 ⟨b, false⟩).2).1 = some b then some ((Msg.numP 1 ⟨b, false⟩).1, (Msg.blobsP (Msg.numP 1 ⟨b, false⟩).2).1) else none := by rw [← hr]; rfl
  have h0 : 0 ≤ (Msg.numP 1 ⟨b, false⟩).1 := Int.natCast_nonneg _
  have hby2 : (Msg.blobsP (Msg.numP 1 ⟨b, false⟩).2).2.bad = false → Msg.RightB (Msg.blobsP (Msg.numP 1 ⟨b, false⟩).2).1 := fun h => by
    have hn : (Msg.numP 1 ⟨b, false⟩).2.bad = false := Msg.good fun hh => by rw [Msg.blobsP_bad hh] at h; cases h
    exact blobsP_right (Msg.num_well (w := 1) (by omega) (s := ⟨b, false⟩) hb hn).1.2.2 h
  have HNUM := hide (fun (w' : World) (g B0 : Nat) (h : RdrAt w' g B0 ⟨b, false⟩) => num_any 1 (by omega) ⟨b, false⟩ w' g B0 h)
  generalize Msg.numP 1 ⟨b, false⟩ = P1 at *
  obtain ⟨E, s2⟩ := P1
  simp only at hsp h0 hby2
  have HBLB := hide (fun (w' : World) (g B0 : Nat) (h : RdrAt w' g B0 s2) => rblobs_any s2 w' g B0 h)
  generalize Msg.blobsP s2 = P2 at *
  obtain ⟨l, s3⟩ := P2
  simp only at hsp hby2 HNUM HBLB
  obtain ⟨bs, bad⟩ := s3
  simp only at hsp hby2
  have HBAD := hide (show bad = true → r = none from fun h => by rw [hsp, if_pos (.inl h)])
  have HBIG := hide (show 17 < E → r = none from fun h => by rw [hsp, if_pos (.inr h)])
  have HSOME := hide (show bad = false → E ≤ 17 → Msg.sayF E l = some b → r = some (E, l) from fun h h' h'' => by rw [hsp, if_neg (by rw [h]; simp; omega), if_pos h''])
  have HNO := hide (show bad = false → E ≤ 17 → ¬ Msg.sayF E l = some b → r = none from fun h h' h'' => by rw [hsp, if_neg (by rw [h]; simp; omega), if_neg h''])
  have HRB := hide hby2
  obtain ⟨n, HN⟩ : ∃ n, Hid (b.length = n) := ⟨_, hide rfl⟩
  have HV' := HV
  rw [HN.out] at h1 HV ⊢
  unfold maxLen at h2
  clear hv ht hb hl hr hsp hby2
  obtain ⟨g0, HG⟩ : ∃ k, Hid (w.heap.size = k) := ⟨_, hide rfl⟩
  go_enter Tryd.func13, Tryd.ntmps13
  go_wp2_with (first
    | (refine wpList_alloc_blk rfl 25 rfl _ zero_reply ?_; intro w1 hb1 hw1 hs1; rw [HG.out] at hb1 hw1 hs1; try rw [HG.out]; have HR := hide hb1; have HW := hide hw1; clear hb1 hw1)
    | (refine wpList_st_build 69 _ rfl rfl [Value.slice A n c, .bool false] (built_reader A n c) ?_)
    | (refine wpList_st_box _ rfl [Value.slice A n c, .bool false] rfl rfl ?_; intro w2 hb2 hw2 hs2; rw [hs1] at hb2 hw2 hs2; try rw [hs1]; have HK := hide hb2; replace HR := hide (HR.out.below hw2 (by omega)); replace HW := hide (HW.out.trans (hw2.mono (by omega))); clear hb2 hw2))
  have hg0 : w.heap.size = g0 := HG.out
  have HRD := hide (show RdrAt w2 (g0 + 1) g0 ⟨b, false⟩ from ⟨_, HK.out, ⟨.inl (by have := (HV'.out.below (HW.out.mono (by omega : w.heap.size ≤ g0)) (Nat.le_refl _)).more (by omega : w.heap.size ≤ g0); rw [HN.out] at this; exact this), by omega⟩, HBY.out, HL.out⟩)
  have hz2 : w2.heap.size = g0 + 1 + 1 := hs2
  clear HK hg0
  refine (HNUM.out w2 (g0 + 1) g0 HRD.out).mono ?_
  rintro e w3 ⟨rfl, hr3, hg3⟩
  have HR3 := hide hr3
  have hz3 := hg3.size
  replace HR := hide (HR.out.grown hg3 (by intro e; injection e; omega))
  replace HW := hide (HW.out.grown hg3 (by omega) (by intro k hk; injection hk; omega))
  clear hr3 hg3 HRD HNUM
  go_wp2_with fail
  refine (HBLB.out w3 (g0 + 1) g0 HR3.out).mono ?_
  rintro e w4 ⟨v4, rfl, ho4, hr4, hg4⟩
  have hz4 := hg4.size
  replace HR := hide (HR.out.grown hg4 (by intro e; injection e; omega))
  replace HW := hide (HW.out.grown hg4 (by omega) (by intro k hk; injection hk; omega))
  obtain ⟨v5, hk5, _⟩ := hr4
  have HK := hide hk5
  have HO := hide ho4
  obtain ⟨A4, c4, rfl⟩ := ho4.shape
  obtain ⟨m, HM⟩ : ∃ m, Hid (l.length = m) := ⟨_, hide rfl⟩
  rw [HM.out] at HO ⊢
  clear hg4 hk5 ho4 HR3 HBLB
  obtain ⟨g5, HG5⟩ : ∃ k, Hid (w4.heap.size = k) := ⟨_, hide rfl⟩
  obtain ⟨base, HBA⟩ : ∃ k, Hid (w3.heap.size = k) := ⟨_, hide rfl⟩
  rw [HBA.out] at HO
  have hba : g0 + 1 + 1 ≤ base ∧ base ≤ w4.heap.size := by have := HBA.out; omega
  have HQ := hide (Below.refl w4.heap.size w4)
  have hg5 : g0 + 1 + 1 ≤ g5 := by have := HG5.out; omega
  go_upto_region 3 with (first
    | (refine wpList_st_build 25 _ rfl rfl [Value.int .i64 E, .slice A4 m c4] (built_reply E A4 m c4) ?_)
    | (refine wpList_alloc_blk rfl 25 rfl _ zero_reply ?_; intro w5 hb5 hw5 hs5; rw [HG5.out] at hb5 hw5 hs5; try rw [HG5.out]; have HS := hide hb5; replace HQ := hide (HQ.out.trans (hw5.mono (by have := HG5.out; omega))); replace HR := hide (HR.out.below hw5 (by omega)); replace HK := hide (HK.out.below hw5 (by omega)); replace HW := hide (HW.out.trans (hw5.mono (by omega))); clear hb5 hw5)
    | (refine wpList_st_putAll _ _ _ rfl rfl rfl HS.out [Value.int .i64 E, .slice A4 m c4] rfl rfl size_reply (reply_one E A4 m c4) ?_; intro w6 hb6 hg6 hs6; replace HS := hide hb6; replace HQ := hide (HQ.out.grown hg6 (by have := HG5.out; omega) (by intro k hk; injection hk; have := HG5.out; omega)); replace HR := hide (HR.out.grown hg6 (by intro e; injection e; omega)); replace HK := hide (HK.out.grown hg6 (by intro e; injection e; omega)); replace HW := hide (HW.out.grown hg6 (by omega) (by intro k hk; injection hk; omega)); clear hb6 hg6))
  replace HO := hide (HO.out.keptB HQ.out (by omega))
  clear HQ
  rcases bad with _ | _
  case true =>
    have HNR := hide (HBAD.out rfl)
    clear HBAD HBIG HSOME HNO HRB
    go_wp2_with (first
      | go_skip
      | (refine wpList_st_get 4 _ rfl 1 rfl rfl HK.out _ Tryd.underlying4 rfl _ rfl ?_)
      | (refine wpList_st_get 22 _ rfl 0 rfl rfl HS.out _ Tryd.underlying22 rfl _ rfl ?_)
      | (refine wpList_st_build 25 _ rfl rfl [Value.int .i64 0, .slice none 0 0] built_reply0 ?_)
      | (refine wpList_st_putAll _ _ _ rfl rfl rfl HR.out [Value.int .i64 0, .slice none 0 0] rfl rfl size_reply (reply_one 0 none 0 0) ?_; intro w9 hb9 hg9 hs9; replace HR := hide hb9; replace HW := hide (HW.out.grown hg9 (by omega) (by intro k hk; injection hk; omega)); clear hb9 hg9))
    refine bodyPost_ret (results_st rfl _ _ g0 _ _ rfl HR.out _ Tryd.underlying25 rfl size_reply _ rfl) rfl ?_
    exact .inr ⟨HNR.out, rfl, by rw [HG.out]; exact HW.out⟩
  by_cases h17 : 17 < E
  · have HNR := hide (HBIG.out h17)
    clear HBAD HBIG HSOME HNO HRB
    go_wp2_with (first
      | go_skip
      | (refine wpList_st_get 4 _ rfl 1 rfl rfl HK.out _ Tryd.underlying4 rfl _ rfl ?_)
      | (refine wpList_st_get 22 _ rfl 0 rfl rfl HS.out _ Tryd.underlying22 rfl _ rfl ?_)
      | (refine wpList_st_build 25 _ rfl rfl [Value.int .i64 0, .slice none 0 0] built_reply0 ?_)
      | (refine wpList_st_putAll _ _ _ rfl rfl rfl HR.out [Value.int .i64 0, .slice none 0 0] rfl rfl size_reply (reply_one 0 none 0 0) ?_; intro w9 hb9 hg9 hs9; replace HR := hide hb9; replace HW := hide (HW.out.grown hg9 (by omega) (by intro k hk; injection hk; omega)); clear hb9 hg9))
    refine bodyPost_ret (results_st rfl _ _ g0 _ _ rfl HR.out _ Tryd.underlying25 rfl size_reply _ rfl) rfl ?_
    exact .inr ⟨HNR.out, rfl, by rw [HG.out]; exact HW.out⟩
  have HE := hide (show E ≤ 17 by omega)
  have HSO2 := hide (HSOME.out rfl HE.out)
  have HNO2 := hide (HNO.out rfl HE.out)
  have HRI := hide (HRB.out rfl)
  have HSY := hide (fun (w' : World) (hv : BlbsB w' w'.heap.size (.slice A4 m c4) l) (ht : Tab w' w'.heap.size) => Say_any E (.slice A4 m c4) l w' hv (fun x hx => ⟨(HRI.out.2 x hx).2.1, by have := (HRI.out.2 x hx).2.2; omega⟩) (fun x hx => by have := (HRI.out.2 x hx).1; omega) (by omega) ht)
  obtain ⟨sr, HSR⟩ : ∃ x, Hid (Msg.sayF E l = x) := ⟨_, hide rfl⟩
  rw [HSR.out] at HSY HSO2 HNO2
  clear HBAD HBIG HSOME HNO HRB
  go_wp2_with (first
    | go_skip
    | (refine wpList_st_get 4 _ rfl 1 rfl rfl HK.out _ Tryd.underlying4 rfl _ rfl ?_)
    | (refine wpList_st_get 22 _ rfl 0 rfl rfl HS.out _ Tryd.underlying22 rfl _ rfl ?_)
    | (refine wpList_st_all 25 _ rfl rfl rfl HS.out _ Tryd.underlying25 rfl size_reply ?_))
  have hg0 := HG.out
  have hg5' := HG5.out
  have HS7 := hide (HSY.out w6 (HO.out.reads (by omega)) ((HT.out.below (HW.out.mono (by omega : w.heap.size ≤ g0)) (Nat.le_refl _)).more (by omega)))
  clear hg0 hg5'
  refine HS7.out.mono ?_
  rintro e w7 (⟨vc, cc, hs, rfl, hoc, hb7⟩ | ⟨hs, rfl, hb7⟩)
  case inr =>
    have hz7 := hb7.size
    have HNR := hide (HNO2.out (by rw [hs]; exact fun h => by cases h))
    replace HR := hide (HR.out.below hb7 (by omega))
    replace HW := hide (HW.out.trans (hb7.mono (by omega)))
    clear HS7 HSY hs hb7 HSO2 HNO2
    go_wp2_with (first
      | go_skip
      | (refine wpList_st_build 25 _ rfl rfl [Value.int .i64 0, .slice none 0 0] built_reply0 ?_)
      | (refine wpList_st_putAll _ _ _ rfl rfl rfl HR.out [Value.int .i64 0, .slice none 0 0] rfl rfl size_reply (reply_one 0 none 0 0) ?_; intro w9 hb9 hg9 hs9; replace HR := hide hb9; replace HW := hide (HW.out.grown hg9 (by omega) (by intro k hk; injection hk; omega)); clear hb9 hg9))
    refine bodyPost_ret (results_st rfl _ _ g0 _ _ rfl HR.out _ Tryd.underlying25 rfl size_reply _ rfl) rfl ?_
    exact .inr ⟨HNR.out, rfl, by rw [HG.out]; exact HW.out⟩
  have hz7 := hb7.size
  replace HR := hide (HR.out.below hb7 (by omega))
  replace HS := hide (HS.out.below hb7 (by omega))
  replace HO := hide (HO.out.keptB hb7 (by have := HG5.out; omega))
  replace HW := hide (HW.out.trans (hb7.mono (by omega)))
  have HC := hide hoc.reads
  have HCB := hide hoc.bytes
  obtain ⟨q, hq⟩ : ∃ q, decide (cc = b) = q := ⟨_, rfl⟩
  have HEQ := hide (equal_rows vc (.slice A n c) cc b w7 w7.heap.size HC.out (by have := HG.out; exact (by have h := (HV'.out.below (HW.out.mono (by omega : w.heap.size ≤ g0)) (Nat.le_refl _)).more (by omega : w.heap.size ≤ w7.heap.size); rw [HN.out] at h; exact h)) HCB.out HBY.out q hq)
  rcases q with _ | _
  · have HNR := hide (HNO2.out (by rw [hs]; exact fun h => by injection h with h; exact of_decide_eq_false hq h))
    clear HS7 HSY hs hb7 HSO2 HNO2 hq hoc
    go_wp2_with (first
      | go_skip
      | (go_at_call 36; refine HEQ.out.mono ?_; rintro e w8 ⟨rfl, hb8⟩; have hz8 := hb8.size; replace HR := hide (HR.out.below hb8 (by omega)); replace HW := hide (HW.out.trans (hb8.mono (by omega))); clear hb8)
      | (refine wpList_st_build 25 _ rfl rfl [Value.int .i64 0, .slice none 0 0] built_reply0 ?_)
      | (refine wpList_st_putAll _ _ _ rfl rfl rfl HR.out [Value.int .i64 0, .slice none 0 0] rfl rfl size_reply (reply_one 0 none 0 0) ?_; intro w9 hb9 hg9 hs9; replace HR := hide hb9; replace HW := hide (HW.out.grown hg9 (by omega) (by intro k hk; injection hk; omega)); clear hb9 hg9))
    refine bodyPost_ret (results_st rfl _ _ g0 _ _ rfl HR.out _ Tryd.underlying25 rfl size_reply _ rfl) rfl ?_
    exact .inr ⟨HNR.out, rfl, by rw [HG.out]; exact HW.out⟩
  · have HYR := hide (HSO2.out (by rw [hs, of_decide_eq_true hq]))
    clear HS7 HSY hs hb7 HSO2 HNO2 hq hoc
    go_wp2_with (first
      | go_skip
      | (go_at_call 36; refine HEQ.out.mono ?_; rintro e w8 ⟨rfl, hb8⟩; have hz8 := hb8.size; replace HR := hide (HR.out.below hb8 (by omega)); replace HS := hide (HS.out.below hb8 (by omega)); replace HO := hide (HO.out.keptB hb8 (by have := HG5.out; omega)); replace HW := hide (HW.out.trans (hb8.mono (by omega))); clear hb8)
      | (refine wpList_st_all 25 _ rfl rfl rfl HS.out _ Tryd.underlying25 rfl size_reply ?_)
      | (refine wpList_st_putAll _ _ _ rfl rfl rfl HR.out [Value.int .i64 E, .slice A4 m c4] rfl rfl size_reply (reply_one E A4 m c4) ?_; intro w9 hb9 hg9 hs9; replace HO := hide (HO.out.past HR.out int_no slice_no hg9 (by omega) (by have := HG5.out; omega)); replace HR := hide hb9; replace HW := hide (HW.out.grown hg9 (by omega) (by intro k hk; injection hk; omega)); clear hb9 hg9))
    refine bodyPost_ret (results_st rfl _ _ g0 _ _ rfl HR.out _ Tryd.underlying25 rfl size_reply _ rfl) rfl ?_
    exact .inl ⟨_, E, l, HYR.out, rfl, by exact HO.out.reads (by have := HG5.out; omega), by rw [HG.out]; exact HW.out⟩
end Go.Proofs.YtfinfkodjkfibaaDoor
