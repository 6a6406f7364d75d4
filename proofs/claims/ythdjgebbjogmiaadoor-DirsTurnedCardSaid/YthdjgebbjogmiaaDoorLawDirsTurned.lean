/-
DirsTurned holds: a byte of a directory turned: there are other entries, or none, never the same ones. Conditions: none but the row's own.
-/
import Derived.Test.YthdjgebbjogmiaaDoorJoin21
import Derived.Test.YthdjgebbjogmiaaDoorEntRight
import Derived.Test.YthdjgebbjogmiaaDoorJoin27
import Derived.Test.YthdjgebbjogmiaaDoorKeepEnts
import Derived.Test.YthdjgebbjogmiaaDoorJoin23
import Derived.Test.YthdjgebbjogmiaaDoorCapDir
import Derived.Test.YthdjgebbjogmiaaDoorTied
set_option linter.unusedVariables false
set_option linter.unusedSimpArgs false
namespace Go.Proofs.YthdjgebbjogmiaaDoor.LawDirsTurned
open Go Go.RowKit Go.ChangeShapes Go.WideShapes Go.ChangeAt
set_option linter.unusedVariables false
set_option linter.unusedSimpArgs false
set_option maxRecDepth 100000
theorem bs_emptyV' {w : World} {B : Nat} {v : Value} (h : Bs w B v []) : ∀ W B', Bs W B' v [] := fun W B' => by
 obtain ⟨A, c, rfl, h1, h2, h3⟩ := h.open_
 exact ⟨A, c, rfl, h1, h2, rfl, fun h => absurd h (by simp)⟩
set_option maxHeartbeats 16000000 in
theorem walk (w : World) (ht : Tab w w.heap.size) (S : List Int) (hsl : S.length = 16) (hsb : Bytes S) (v : Value) (l : List EntD) (hv : EntsB w w.heap.size v l) (hin : ∀ e ∈ l, e.In) (at_ : Int) (hat : In64 at_) (c : Int) (hc : 0 ≤ c ∧ c < 256) :
 Calls Tryd.prog 7 #[.agg (u8s S).toArray, v, .int .i64 at_, .int .u8 c] w fun e w' => e = .returned (.bool true) ∧ Below w.heap.size w w' := by
 have HT := hide ht
 have HV := hide hv
 have HIN := hide hin
 have HWFL := hide (fun (e : EntD) (he : e ∈ l) => (hin e he).wf)
 have HSL := hide hsl
 have HSB := hide hsb
 have HAT := hide hat
 have HCR := hide hc
 have HSZK := hide (show (Tryd.prog.info? 23).map (·.size) = some (u8s S).length by rw [u8s_len, HSL.out]; exact size_key)
 obtain ⟨g4, HG4⟩ : ∃ k, Hid (w.heap.size = k) := ⟨_, hide rfl⟩
 have hg4 : g4 ≤ w.heap.size ∧ w.heap.size ≤ g4 := by have := HG4.out; omega
 clear hv hin ht hsl hsb hat hc
 go_enter Tryd.func7, Tryd.ntmps7
 go_wp2_with (first
  | (refine wpList_box_key _ rfl S rfl rfl ?_; intro w1 hb1 hw1 hs1; rw [HG4.out] at hb1; try rw [HG4.out]; have H4 := hide hb1; have HB := hide hw1; have hz1 := hw1.size; clear hb1 hw1 hs1)
  | (refine wpList_st_all 23 _ rfl rfl rfl H4.out _ Tryd.underlying23 rfl HSZK.out ?_)
  | (refine wpList_st_build 25 #[] rfl rfl (u8s (zeros 32)) built_hash ?_))
 refine (Slot_any S (zeros 32) w1 HSL.out HSB.out rfl ((HT.out.below HB.out (Nat.le_refl _)).more HB.out.size)).mono ?_
 rintro e w2 ⟨rfl, hb2⟩
 replace H4 := hide (H4.out.below hb2 H4.out.lt)
 replace HB := hide (HB.out.trans (hb2.mono HB.out.size))
 have hz2 := hb2.size
 clear hb2
 have HSW := hide (slotF_wf (k := S) (f := zeros 32) rfl (bytes_rep 32))
 have HCDS := hide (dirSlot S (zeros 32))
 obtain ⟨SK, HSK⟩ : ∃ x, Hid (slotF S (zeros 32) = x) := ⟨_, hide rfl⟩
 have HCDX := hide (dirSlot_all S (zeros 32) rfl (bytes_rep 32))
 rw [HSK.out] at HSW HCDX
 rw [HSK.out]
 go_wp2_with (first
  | go_skip)
 refine (Dir_any SK (.slice none 0 0) w2 HSW.out (by rw [← HSK.out]; exact Bs.nil_ _ _) (by rw [← HSK.out]; show ([] : List Int).length ≤ _; simp)).mono ?_
 rintro e w3 ⟨l3, rfl, hl3, hb3⟩
 rw [HCDX.out.2.1]
 obtain ⟨CD, HCDE⟩ : ∃ x, Hid (dirF SK = x) := ⟨_, hide rfl⟩
 have HCD := hide (show CD.Wf ∧ CD.lit = [] ∧ CD.Valid ∧ CD.kind = 7 by rw [← HCDE.out]; exact ⟨HCDX.out.1, HCDX.out.2.2⟩)
 rw [HCDE.out] at hl3 ⊢
 rw [HCD.out.2.1] at hl3
 have HL3F := hide (fun (W : World) => show Bs W W.heap.size l3 CD.lit by rw [HCD.out.2.1]; exact bs_emptyV' hl3 W _)
 have HL31 := hide (bs_one_ hl3)
 clear hl3 HCDX HCDS
 replace H4 := hide (H4.out.below hb3 H4.out.lt)
 replace HB := hide (HB.out.trans (hb3.mono HB.out.size))
 have hz3 := hb3.size
 clear hb3
 obtain ⟨g9, HG9⟩ : ∃ k, Hid (w3.heap.size = k) := ⟨_, hide rfl⟩
 have hg9 : g9 ≤ w3.heap.size ∧ w3.heap.size ≤ g9 := by have := HG9.out; omega
 have hlH4_9 : g4 < g9 := by have := H4.out.lt; omega
 go_wp2_with (first
  | go_skip
  | (refine wpList_cap_zero rfl rfl ?_; intro w4 hba hwa hsa; rw [HG9.out] at hba hsa; try rw [HG9.out]; have H9 := hide hba; replace H4 := hide (H4.out.below hwa H4.out.lt); replace HB := hide (HB.out.trans (hwa.mono HB.out.size)); have hzw4 := hwa.size; clear hba hwa)
  | (refine wpList_cap_putAll _ _ rfl rfl rfl H9.out CD l3 rfl HCD.out.1.keyL HCD.out.1.fpL HL31.out ?_; intro w5 hbs hgs hss; replace H4 := hide (H4.out.grown hgs (by intro e; injection e; omega)); replace HB := hide (HB.out.grown hgs HB.out.size (by intro k hk; injection hk; omega)); replace H9 := hide hbs; have hzw5 := hss; clear hbs hgs hss))
 refine (entright_any v l w5 ((HV.out.below HB.out (Nat.le_refl _)).more HB.out.size) HIN.out).mono ?_
 rintro e w6 ⟨v6, rfl, ho6, hb6⟩
 have HO6 := hide (ho6.reads hb6.size)
 clear ho6
 replace H4 := hide (H4.out.below hb6 H4.out.lt)
 replace H9 := hide (H9.out.below hb6 H9.out.lt)
 replace HB := hide (HB.out.trans (hb6.mono HB.out.size))
 have hz6 := hb6.size
 clear hb6
 obtain ⟨l1, HL1⟩ : ∃ x, Hid (rightsL l = x) := ⟨_, hide rfl⟩
 have HR1 := hide (show rightB l1 = true by rw [← HL1.out]; exact rights_right l)
 have HN1 := hide (show l1.length ≤ 6 by rw [← HL1.out]; unfold rightsL; rw [rightsN_len]; omega)
 have HLT := hide (show ∀ x ∈ l1, x.read.lit.length ≤ 1000000 ∧ x.write.lit.length ≤ 1000000 by rw [← HL1.out]; exact rights_lit)
 have HW1 := hide (show ∀ x ∈ l1, x.Wf by rw [← HL1.out]; exact rights_wf HWFL.out)
 rw [HL1.out] at HO6
 obtain ⟨B6, HBd6⟩ : ∃ k, Hid (w6.heap.size = k) := ⟨_, hide rfl⟩
 have hBd6 : B6 ≤ w6.heap.size ∧ w6.heap.size ≤ B6 := by have := HBd6.out; omega
 have HE1 := hide (show EntsB w6 B6 v6 l1 from (HO6.out).more hBd6.2)
 clear HO6 HL1
 have hl9 := H9.out.lt
 have hl4 := H4.out.lt
 have HLE7 := HB.out.size
 go_wp2_with (first
  | go_skip
  | (refine wpList_cap_all _ rfl rfl rfl H9.out ?_))
 refine (Pack_any CD l3 v6 l1 w6 HCD.out.1 (HL3F.out w6) (HE1.out.more (by omega)) HLT.out (by have := HN1.out; omega) ((HT.out.below HB.out (Nat.le_refl _)).more HB.out.size)).mono ?_
 rintro e w7 ⟨v7, rfl, ho7, hb7⟩
 rw [(pack_ok HCD.out.2.2.1 HCD.out.2.2.2 HR1.out).1]
 rw [(pack_ok HCD.out.2.2.1 HCD.out.2.2.2 HR1.out).2] at ho7
 have HPL := hide (show (packF CD.key l1).length ≤ 4128 by have := packF_len CD.key l1 (fun e he => ⟨HW1.out e he, ((oneB_iff e).1 (((rightB_iff l1).1 HR1.out).1 e he)).1.2⟩); have := HN1.out; omega)
 have HPB := hide ho7.bytes
 have HSND := hide (fun (b : List Int) (m : List EntD) (hb : Bytes b) (h : unpackF true CD.key b = some m) => unpack_sound hb h)
 obtain ⟨PL, HPLE⟩ : ∃ x, Hid (packF CD.key l1 = x) := ⟨_, hide rfl⟩
 rw [HPLE.out] at ho7 HPL HPB
 obtain ⟨n, HPN⟩ : ∃ x, Hid (PL.length = x) := ⟨_, hide rfl⟩
 have hn := HPL.out
 rw [HPN.out] at hn
 have HR7 := hide ho7
 clear ho7
 replace HE1 := hide (HE1.out.below hb7 (by omega))
 replace H4 := hide (H4.out.below hb7 H4.out.lt)
 replace H9 := hide (H9.out.below hb7 H9.out.lt)
 replace HB := hide (HB.out.trans (hb7.mono HB.out.size))
 have hz7 := hb7.size
 clear hb7
 by_cases h0 : n = 0
 · obtain ⟨A7, c7, e7⟩ := HR7.out.shape
   rw [HPN.out] at e7
   subst e7
   have HN0 := hide (show ((n : Int) == 0) = true by rw [h0]; rfl)
   go_wp2_with (first
    | go_skip
    | (refine wpList_val_ rfl (exec_eql_i64 _ _ _ _ rfl (n : Int) 0 rfl rfl _ HN0.out) ?_)
    | (refine wpList_val_ rfl (exec_eql_u8 _ _ _ _ rfl c 0 rfl rfl _ HC0.out) ?_))
   refine (wakes23 w7 ((HT.out.below HB.out (Nat.le_refl _)).more HB.out.size)).mono ?_
   rintro e w8 ⟨rfl, hb8⟩
   replace HE1 := hide (HE1.out.below hb8 (by omega))
   replace H4 := hide (H4.out.below hb8 H4.out.lt)
   replace H9 := hide (H9.out.below hb8 H9.out.lt)
   replace HB := hide (HB.out.trans (hb8.mono HB.out.size))
   have hz8 := hb8.size
   clear hb8
   go_wp2_with go_skip
   go_ret
   exact ⟨rfl, HB.out⟩
 have HN0 := hide (show ((n : Int) == 0) = false by rw [beq_eq_false_iff_ne]; omega)
 by_cases hc0 : c = 0
 · obtain ⟨A7, c7, e7⟩ := HR7.out.shape
   rw [HPN.out] at e7
   subst e7
   have HC0 := hide (show (c == 0) = true by rw [hc0]; rfl)
   clear hc0
   go_wp2_with (first
    | go_skip
    | (refine wpList_val_ rfl (exec_eql_i64 _ _ _ _ rfl (n : Int) 0 rfl rfl _ HN0.out) ?_)
    | (refine wpList_val_ rfl (exec_eql_u8 _ _ _ _ rfl c 0 rfl rfl _ HC0.out) ?_))
   refine (wakes23 w7 ((HT.out.below HB.out (Nat.le_refl _)).more HB.out.size)).mono ?_
   rintro e w8 ⟨rfl, hb8⟩
   replace HE1 := hide (HE1.out.below hb8 (by omega))
   replace H4 := hide (H4.out.below hb8 H4.out.lt)
   replace H9 := hide (H9.out.below hb8 H9.out.lt)
   replace HB := hide (HB.out.trans (hb8.mono HB.out.size))
   have hz8 := hb8.size
   clear hb8
   go_wp2_with go_skip
   go_ret
   exact ⟨rfl, HB.out⟩
 have HC0 := hide (show (c == 0) = false by rw [beq_eq_false_iff_ne]; exact hc0)
 have HCN := hide hc0
 have hr7 := HR7.out
 clear HR7 hc0
 rcases hr7 with ⟨_, hp⟩ | ⟨g7, cap, cur, f, e7, h7, hBF, hf, hl, hcm, hcl, hcb, htk⟩
 · exact absurd (by rw [← HPN.out, hp]; rfl) h0
 rw [HPN.out] at e7 hl htk
 subst e7
 have HBF := hide hBF
 have HFF := hide hf
 have HCL := hide hcl
 have HCM := hide hcm
 have HCUB := hide hcb
 have HTK := hide htk
 have hl7 := hBF.lt
 clear hBF hf hcl hcm hcb htk
 go_wp2_with (first
  | go_skip
  | (refine wpList_val_ rfl (exec_eql_i64 _ _ _ _ rfl (n : Int) 0 rfl rfl _ HN0.out) ?_)
  | (refine wpList_val_ rfl (exec_eql_u8 _ _ _ _ rfl c 0 rfl rfl _ HC0.out) ?_))
 refine (within_any at_ (n : Int) w7 HAT.out.1 HAT.out.2 (by omega)).mono ?_
 rintro e w8 ⟨rfl, rfl⟩
 obtain ⟨k, hk, hkn⟩ : ∃ k : Nat, within at_ (n : Int) = (k : Int) ∧ k < n := by
  have := within_lt at_ (n : Int) (by omega)
  exact ⟨(within at_ (n : Int)).toNat, by omega, by omega⟩
 rw [hk]
 clear hk
 have k0 : (0 : Int) ≤ (k : Int) := by omega
 have k1 : (k : Int) < (n : Int) := by omega
 obtain ⟨x, HX⟩ : ∃ x, Hid (cur.getD k 0 = x) := ⟨_, hide rfl⟩
 have HXP := hide (show PL.getD k 0 = x by rw [← HX.out, ← HTK.out, List.getD_eq_getElem?_getD, List.getD_eq_getElem?_getD, List.getElem?_take_of_lt hkn])
 have c1 := blkF_get HBF.out k x (by rw [HCL.out]; omega) HX.out
 have f1 := HBF.out.frozen k (by have := HFF.out; omega)
 have HXB := hide (show 0 ≤ x ∧ x < 256 by rw [← HXP.out, getD_el PL k (by rw [HPN.out]; exact hkn)]; exact HPB.out _ (List.getElem_mem _))
 have HNEQ := hide (turned_ne (PL := PL) (k := k) (c := c) HPB.out (by rw [HPN.out]; exact hkn) HCR.out HCN.out)
 rw [HXP.out] at HNEQ
 obtain ⟨X, HXX⟩ : ∃ X, Hid (X8 x c = X) := ⟨_, hide rfl⟩
 have HXXB := hide (show 0 ≤ X ∧ X < 256 by rw [← HXX.out]; exact x8_byte HXB.out HCR.out)
 go_upto_region 9 with go_skip
 rw [show bits .xor .u8 x c = X from HXX.out]
 obtain ⟨w8, HW8⟩ : ∃ u, Hid (w7.setCell ⟨g7, k, none⟩ (.int .u8 X) = u) := ⟨_, hide rfl⟩
 rw [HW8.out]
 have hgs : w7.grownBy w8 (some g7) := by rw [← HW8.out]; exact (grown_setCells [.int .u8 X] w7 k).1
 have hss : w8.heap.size = w7.heap.size := by rw [← HW8.out]; exact (grown_setCells (g := g7) [.int .u8 X] w7 k).2
 have hbs : Bs w8 w8.heap.size (.slice (some ⟨g7, 0, none⟩) n cap) (PL.set k X) := by
  have hlen : (PL.set k X).length = n := by rw [List.length_set]; exact HPN.out
  have h : RowB w8 0 (.slice (some ⟨g7, 0, none⟩) n cap) (PL.set k X) := .inr ⟨g7, cap, cur.set k X, f, by rw [hlen], Nat.zero_le _, by rw [← HW8.out]; exact blkF_set HBF.out k X, HFF.out, by rw [hlen]; exact hl, HCM.out, by rw [List.length_set]; exact HCL.out, fun y hy => by
   rcases List.mem_or_eq_of_mem_set hy with hy | rfl
   · exact HCUB.out y hy
   · exact HXXB.out, by rw [hlen, List.take_set, HTK.out]⟩
  exact h.reads
 have HPB2 := hide (show Bytes (PL.set k X) from fun y hy => by
  rcases List.mem_or_eq_of_mem_set hy with hy | rfl
  · exact HPB.out y hy
  · exact HXXB.out)
 have HPL2 := hide (show (PL.set k X).length ≤ 16000 by rw [List.length_set]; have := HPN.out; omega)
 rw [HXX.out] at HNEQ
 obtain ⟨P2, HP2⟩ : ∃ u, Hid (PL.set k X = u) := ⟨_, hide rfl⟩
 rw [HP2.out] at HNEQ hbs HPB2 HPL2
 have hg47 : g4 < g7 := by omega
 have hg97 : g9 < g7 := by omega
 have hg67 : B6 ≤ g7 := by omega
 clear c1 f1 k0 k1 HBF HTK HCUB
 replace HE1 := hide (HE1.out.below ((Below.refl B6 _).grown hgs (by omega) (by intro k hk; injection hk; omega)) (Nat.le_refl _)); replace H4 := hide (H4.out.grown hgs (by intro e; injection e; omega)); replace H9 := hide (H9.out.grown hgs (by intro e; injection e; omega)); replace HB := hide (HB.out.grown hgs HB.out.size (by intro k hk; injection hk; omega)); replace HR8 := hide hbs; have hzw8 := hss; clear hbs hgs hss
 go_wp2_with (first
  | go_skip
  | (refine wpList_cap_all _ rfl rfl rfl H9.out ?_))
 refine (Unpack_any CD l3 (.slice (some ⟨g7, 0, none⟩) n cap) P2 w8 HCD.out.1 (HL3F.out w8) HR8.out HPB2.out HPL2.out ((HT.out.below HB.out (Nat.le_refl _)).more HB.out.size)).mono ?_
 rintro e w9 ⟨v9, rfl, ho9, hb9⟩
 have HU := hide (unp_ok HCD.out.2.2.1 HCD.out.2.2.2 P2)
 rw [HU.out.1]
 rw [HU.out.2] at ho9
 have HS2 := hide (fun (m : List EntD) (h : unpackF true CD.key P2 = some m) => HSND.out P2 m HPB2.out h)
 obtain ⟨U, HUE⟩ : ∃ u, Hid (unpackF true CD.key P2 = u) := ⟨_, hide rfl⟩
 rw [HUE.out] at ho9 HS2 ⊢
 have HO9 := hide (ho9.reads hb9.size)
 clear ho9 HU HSND HR8
 replace HE1 := hide (HE1.out.below hb9 (by omega))
 replace H4 := hide (H4.out.below hb9 H4.out.lt)
 replace H9 := hide (H9.out.below hb9 H9.out.lt)
 replace HB := hide (HB.out.trans (hb9.mono HB.out.size))
 have hz9 := hb9.size
 clear hb9
 rcases U with _ | m
 case none =>
  obtain ⟨A9, c9, e9⟩ : ∃ A k, v9 = .slice A 0 k := by obtain ⟨A, k, e, _⟩ := HO9.out; exact ⟨A, k, e⟩
  subst e9
  rw [show codeU none = 2 from rfl]
  go_wp2_with (first
   | go_skip)
  refine (wakes23 w9 ((HT.out.below HB.out (Nat.le_refl _)).more HB.out.size)).mono ?_
  rintro e w10 ⟨rfl, hb10⟩
  replace HE1 := hide (HE1.out.below hb10 (by omega))
  replace H4 := hide (H4.out.below hb10 H4.out.lt)
  replace H9 := hide (H9.out.below hb10 H9.out.lt)
  replace HB := hide (HB.out.trans (hb10.mono HB.out.size))
  have hz10 := hb10.size
  clear hb10
  go_wp2_with go_skip
  go_ret
  exact ⟨rfl, HB.out⟩
 rw [show codeU (some m) = 0 from rfl]
 obtain ⟨hm1, hm2, hm3⟩ := HS2.out m rfl
 have HMR := hide hm2
 have HML := hide (show ∀ e ∈ m, e.read.lit.length ≤ 1000000 ∧ e.write.lit.length ≤ 1000000 from rightB_lit hm2)
 have HMN := hide (show m.length ≤ 16 from ((rightB_iff m).1 hm2).2.2)
 have HNE := hide (show entsEq m l1 = false by
  cases h : entsEq m l1 with
  | false => rfl
  | true =>
   have e := (entsEq_iff m l1).1 h
   subst e
   exact absurd ((hm3 (by trivial)).symm.trans HPLE.out) (Ne.symm HNEQ.out))
 clear hm1 hm2 hm3 HS2
 obtain ⟨B9, HBd9⟩ : ∃ k, Hid (w9.heap.size = k) := ⟨_, hide rfl⟩
 have hBd9 : B9 ≤ w9.heap.size ∧ w9.heap.size ≤ B9 := by have := HBd9.out; omega
 have HE9 := hide (show EntsB w9 B9 v9 m from (HO9.out).more hBd9.2)
 clear HO9
 go_wp2_with (first
  | go_skip)
 refine (dright_any v9 m w9 (HE9.out.more (by omega)) HML.out (by have := HMN.out; omega) ((HT.out.below HB.out (Nat.le_refl _)).more HB.out.size)).mono ?_
 rintro e w10 ⟨rfl, hb10⟩
 rw [HMR.out]
 replace HE1 := hide (HE1.out.below hb10 (by omega))
 replace HE9 := hide (HE9.out.below hb10 (by omega))
 replace H4 := hide (H4.out.below hb10 H4.out.lt)
 replace H9 := hide (H9.out.below hb10 H9.out.lt)
 replace HB := hide (HB.out.trans (hb10.mono HB.out.size))
 have hz10 := hb10.size
 clear hb10
 go_wp2_with (first
  | go_skip)
 refine (keep_ents v9 v6 m l1 w10 w10.heap.size (Nat.le_refl _) (HE9.out.more (by omega)) (HE1.out.more (by omega))).mono ?_
 rintro e w11 ⟨rfl, hb11⟩
 rw [HNE.out]
 replace HE1 := hide (HE1.out.below hb11 (by omega))
 replace HE9 := hide (HE9.out.below hb11 (by omega))
 replace H4 := hide (H4.out.below hb11 H4.out.lt)
 replace H9 := hide (H9.out.below hb11 H9.out.lt)
 replace HB := hide (HB.out.trans (hb11.mono HB.out.size))
 have hz11 := hb11.size
 clear hb11
 go_wp2_with (first
  | go_skip)
 refine (wakes23 w11 ((HT.out.below HB.out (Nat.le_refl _)).more HB.out.size)).mono ?_
 rintro e w12 ⟨rfl, hb12⟩
 replace HE1 := hide (HE1.out.below hb12 (by omega))
 replace HE9 := hide (HE9.out.below hb12 (by omega))
 replace H4 := hide (H4.out.below hb12 H4.out.lt)
 replace H9 := hide (H9.out.below hb12 H9.out.lt)
 replace HB := hide (HB.out.trans (hb12.mono HB.out.size))
 have hz12 := hb12.size
 clear hb12
 go_wp2_with go_skip
 go_ret
 exact ⟨rfl, HB.out⟩
set_option maxRecDepth 100000 in
theorem lifted (os : Os) (started : os.Started) (H : Type) (enc : TypeId × Value → H) :
 ReturnsInHanded {} Tryd.checked os 7 .any (fun w args => (Rows.dirsTurnedSpec.pre enc Tryd.prog Tryd.f7 [] false w args ∧ laidMetH Tryd.prog laidD w) ∧ sizedMet enc Tryd.prog Tryd.f7 (OpenSpec.ofChange Rows.dirsTurnedSpec) false w args)
  (Rows.dirsTurnedSpec.post enc Tryd.prog Tryd.f7 false true false false) := by
 refine returnsInHanded_of_change_and (C := Tryd.checked) (X := fun w _ => laidMetH Tryd.prog laidD w) (fun _ _ _ hh h => h.of_heap hh) own started (by kernel_rfl) Tryd.func7
  (ChangeSpec.witness_shaped (enc := enc) (C := Tryd.checked) (os := os) (X := fun w _ => laidMetH Tryd.prog laidD w) false (World.doorLaid Tryd.prog doorSteps os) #[.agg #[.int .u8 0, .int .u8 0, .int .u8 0, .int .u8 0, .int .u8 0, .int .u8 0, .int .u8 0, .int .u8 0, .int .u8 0, .int .u8 0, .int .u8 0, .int .u8 0, .int .u8 0, .int .u8 0, .int .u8 0, .int .u8 0], .slice none 0 0, .int .i64 0, .int .u8 0] 8 rfl (World.shaped_of_RefB (by kernel_rfl) (by kernel_rfl)) (by kernel_rfl) (by kernel_rfl) (by kernel_rfl) (door_met os _)) ?_
 intro W base args ds gs before hval0 hW _ _ hL _
 have hT := tab_of hL
 have hval : ∀ (j : Nat) t v, Tryd.f7.params[j]? = some t → args[j]? = some v → Value.okWide Tryd.prog W .any base t v := hval0
 have hW' := hW
 obtain ⟨p, q, hA0, hV, rfl, hfz, hnd⟩ := hW
 have hA : DataW.TrodAll enc Tryd.prog W 0 (fun _ => true) true Tryd.f7.params.toList args.toList ds p := hA0
 rw [Tryd.params7] at hA hval
 obtain ⟨v0, vs0, d0, ds0, p0, q0, hargs, rfl, rfl, h0, r0⟩ := trodAll_cons hA
 obtain ⟨v1, vs1, d1, ds1, p1, q1, rfl, rfl, rfl, h1, r1⟩ := trodAll_cons r0
 obtain ⟨v2, vs2, d2, ds2, p2, q2, rfl, rfl, rfl, h2, r2⟩ := trodAll_cons r1
 obtain ⟨v3, vs3, d3, ds3, p3, q3, rfl, rfl, rfl, h3, r3⟩ := trodAll_cons r2
 obtain ⟨rfl, rfl, rfl⟩ := trodAll_nil r3
 obtain rfl : args = #[v0, v1, v2, v3] := by cases args; simp_all
 obtain ⟨rfl, rfl⟩ := trodVars_none hV
 have k0 := h0
 have lt0 : ∀ x ∈ p0, x.block < W.heap.size := by obtain ⟨m, hm⟩ := k0; exact DataW.trod_lt m _ _ _ hm
 obtain ⟨z0, rfl, w0, b0⟩ := read_arr16_key (hval 0 23 v0 rfl rfl) h0
 have k1 := h1
 have lt1 : ∀ x ∈ p1, x.block < W.heap.size := by obtain ⟨m, hm⟩ := k1; exact DataW.trod_lt m _ _ _ hm
 obtain ⟨z1, w1, b1⟩ := read_ents (hval 1 29 v1 rfl rfl) h1
 obtain ⟨a2, rfl, rfl, rfl, wf2⟩ := open_int Tryd.underlying3 (hval 2 3 v2 rfl rfl) h2
 obtain ⟨a3, rfl, rfl, rfl, wf3⟩ := open_int Tryd.underlying5 (hval 3 5 v3 rfl rfl) h3
 clear hA0 hval0
 refine (walk W hT z0 w0 b0 v1 z1 w1 b1 a2 (in64_wf wf2) a3 (u8_wf wf3)).mono fun e W' ⟨he, bel⟩ => ?_
 subst he
 exact ⟨_, rfl, _, _, _, [], _, [], hW', trodAll_mk1 (shut_bool Tryd.underlying4 _), (trodAll_cons_mk (Below.trod laidOut (by kernel_rfl) (of_decide_eq_true (by kernel_rfl)) k0 bel lt0) (trodAll_cons_mk (Below.trod laidOut (by kernel_rfl) (of_decide_eq_true (by kernel_rfl)) k1 bel lt1) (trodAll_cons_mk (shut_int Tryd.underlying3 wf2) (trodAll_cons_mk (shut_int Tryd.underlying5 wf3) trodAll_mk0)))), rfl, bel.frame _, fun h => by cases h⟩

theorem over : Rows.dirsTurnedRow.holds Tryd.pinned (OpenSpec.ofChange Rows.dirsTurnedSpec) :=
 OpenClaim.holds_of_wide 7 Tryd.f7 rfl rfl rfl rfl rfl rfl rfl ⟨rfl, rfl, rfl, rfl, rfl⟩ rfl rfl rfl rfl rfl (by kernel_rfl) Tryd.func7 (by kernel_rfl)
  (of_decide_eq_true (by kernel_rfl)) (by unfold Func.isWrapper; rw [if_neg (of_decide_eq_false (by kernel_rfl))]; exact ⟨rfl, rfl⟩)
  (fun os started H enc _ => lifted os started H enc)

theorem proved : Rows.DirsTurnedCardSaid :=
 Claim7.holds_tied_plain_at .later [] Rows.dirsTurnedCard.laidKinds true Rows.dirsTurnedCard.stood.harness Rows.dirsTurnedCard.stood.looks
  over (fun _ h => by cases h) (by kernel_rfl) (fun _ h => by cases h) dirsTurned_row_tie rfl ⟨rfl, rfl⟩ (by kernel_rfl) rfl
  (fun f fn hf hfn => by
   obtain rfl : f = 7 := Option.some.inj ((show Tryd.prog.funcNamed "aumbry/aumbrylaw23.DirsTurned" = some 7 by kernel_rfl).symm.trans hf) |>.symm
   obtain rfl : fn = Tryd.f7 := (Option.some.inj (Tryd.func7.symm.trans hfn)).symm
   exact ⟨by kernel_rfl, fun j t ht => by
    have ht' : Tryd.f7.params[j]? = some t := ht
    rw [Tryd.params7] at ht'
    have hm : t ∈ [23, 29, 3, 5] := by simpa using Array.mem_of_getElem? ht'
    have hall : ([23, 29, 3, 5].all fun u => !Tryd.prog.wantsStandIn u) = true := by kernel_rfl
    exact (show Tryd.prog.wantsStandIn t = false by simpa using List.all_eq_true.1 hall t hm)⟩)
  (by kernel_rfl)
end Go.Proofs.YthdjgebbjogmiaaDoor.LawDirsTurned
