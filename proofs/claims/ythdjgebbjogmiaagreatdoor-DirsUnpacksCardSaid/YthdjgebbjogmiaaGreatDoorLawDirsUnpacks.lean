/-
DirsUnpacks holds: the entries of any bytes, through what may write, what may only read, what may not, or why there are none: program and document agree. Conditions: none but the row's own.
-/
import Derived.Test.YthdjgebbjogmiaaGreatDoorJoin19
import Derived.Test.YthdjgebbjogmiaaGreatDoorEntRight
import Derived.Test.YthdjgebbjogmiaaGreatDoorUnpackR
import Derived.Test.YthdjgebbjogmiaaGreatDoorJoin28
import Derived.Test.YthdjgebbjogmiaaGreatDoorJoin29
import Derived.Test.YthdjgebbjogmiaaGreatDoorJoin21
import Derived.Test.YthdjgebbjogmiaaGreatDoorJoin20
import Derived.Test.YthdjgebbjogmiaaGreatDoorTied
set_option linter.unusedVariables false
set_option linter.unusedSimpArgs false
namespace Go.Proofs.YthdjgebbjogmiaaGreatDoor.LawDirsUnpacks
open Go Go.RowKit Go.ChangeShapes Go.WideShapes Go.ChangeAt
set_option linter.unusedVariables false
set_option linter.unusedSimpArgs false
set_option maxRecDepth 100000
theorem bs_emptyV' {w : World} {B : Nat} {v : Value} (h : Bs w B v []) : ∀ W B', Bs W B' v [] := fun W B' => by
 obtain ⟨A, c, rfl, h1, h2, h3⟩ := h.open_;exact ⟨A, c, rfl, h1, h2, rfl, fun h => absurd h (by simp)⟩
set_option maxHeartbeats 16000000 in
theorem walk (w : World) (ht : Tab w w.heap.size) (c : CapD) (lit : Value) (hc : c.In) (hl : Bs w w.heap.size lit c.lit) (v : Value) (l : List EntD) (hv : EntsB w w.heap.size v l) (hin : ∀ e ∈ l, e.In) (rv : Value) (xs : List Int) (hxs : Bs w w.heap.size rv xs) (hxb : Bytes xs) (what : Int) (hwh : In64 what) (at_ : Int) (hat : In64 at_) (less : Int) (hle : In64 less) :
 Calls Tryz.prog 3 #[capV c lit, v, rv, .int .i64 what, .int .i64 at_, .int .i64 less] w fun e w' => e = .returned (.bool true) ∧ Below w.heap.size w w' := by
 have HT := hide ht;have HC := hide hc.toWf;have HL := hide hl;have hl1 := bs_one_ hl;have HV := hide hv;have HIN := hide hin;have HWFL := hide (fun (e : EntD) (he : e ∈ l) => (hin e he).wf);have HXS := hide hxs;have HXSB := hide hxb;have HWH := hide hwh;have HAT := hide hat;have HLE := hide hle;obtain ⟨g6, HG6⟩ : ∃ k, Hid (w.heap.size = k) := ⟨_, hide rfl⟩
 have hg6 : g6 ≤ w.heap.size ∧ w.heap.size ≤ g6 := by have := HG6.out; omega
 clear hc hl hv hin ht hxs hxb hwh hat hle
 go_enter Tryz.func3, Tryz.ntmps3
 go_wp2_with (first
  | (refine wpList_cap_new (c := c) (lit := lit) _ rfl rfl rfl HC.out.keyL HC.out.fpL hl1 ?_; intro w1 hb1 hw1 hs1; rw [HG6.out] at hb1; try rw [HG6.out]; have H6 := hide hb1; have HB := hide hw1; have hz1 := hw1.size; clear hb1 hw1 hs1)
  | (refine wpList_cap_key _ rfl rfl rfl H6.out ?_)
  | (refine wpList_cap_fp _ rfl rfl rfl H6.out ?_))
 refine (Slot_ref c.key c.fp w1 HC.out.keyL HC.out.keyB HC.out.fpL).mono ?_;rintro e w2 ⟨rfl, hb2⟩;replace H6 := hide (H6.out.below hb2 H6.out.lt);replace HB := hide (HB.out.trans (hb2.mono HB.out.size));have hz2 := hb2.size;clear hb2;have HSW := hide (slotF_wf (k := c.key) (f := c.fp) HC.out.fpL HC.out.fpB);have HCDX := hide (dirSlot_all c.key c.fp HC.out.fpL HC.out.fpB);have HSLT := hide (show (slotF c.key c.fp).lit = [] from rfl);obtain ⟨SK, HSK⟩ : ∃ x, Hid (slotF c.key c.fp = x) := ⟨_, hide rfl⟩;rw [HSK.out] at HSW HCDX HSLT;rw [HSK.out]
 go_wp2_with (first
  | go_skip)
 refine (Dir_ref SK (.slice none 0 0) w2 HSW.out (by rw [HSLT.out]; exact Bs.nil_ _ _) (by rw [HSLT.out]; simp)).mono ?_;rintro e w3 ⟨l3, rfl, hl3, hb3⟩;rw [HCDX.out.2.1];obtain ⟨CD, HCDE⟩ : ∃ x, Hid (dirF SK = x) := ⟨_, hide rfl⟩;rw [HCDE.out] at hl3 ⊢;have HCD := hide (show CD.Wf ∧ CD.lit = [] ∧ CD.Valid ∧ CD.kind = 7 by rw [← HCDE.out]; exact ⟨HCDX.out.1, HCDX.out.2.2⟩);rw [HCD.out.2.1] at hl3;have HL3F := hide (fun (W : World) => show Bs W W.heap.size l3 CD.lit by rw [HCD.out.2.1]; exact bs_emptyV' hl3 W _);have HL31 := hide (bs_one_ hl3);clear hl3 HCDX;replace H6 := hide (H6.out.below hb3 H6.out.lt);replace HB := hide (HB.out.trans (hb3.mono HB.out.size));have hz3 := hb3.size;clear hb3;obtain ⟨g13, HG13⟩ : ∃ k, Hid (w3.heap.size = k) := ⟨_, hide rfl⟩
 have hg13 : g13 ≤ w3.heap.size ∧ w3.heap.size ≤ g13 := by have := HG13.out; omega
 have hlH6_13 : g6 < g13 := by have := H6.out.lt; omega
 go_upto_region 2 with (first
  | go_skip
  | (refine wpList_cap_all _ rfl rfl rfl H6.out ?_)
  | (refine wpList_cap_zero rfl rfl ?_; intro w4 hba hwa hsa; rw [HG13.out] at hba hsa; try rw [HG13.out]; have H13 := hide hba; replace H6 := hide (H6.out.below hwa H6.out.lt); replace HB := hide (HB.out.trans (hwa.mono HB.out.size)); have hzw4 := hwa.size; clear hba hwa)
  | (refine wpList_cap_putAll _ _ rfl rfl rfl H13.out CD l3 rfl HCD.out.1.keyL HCD.out.1.fpL HL31.out ?_; intro w5 hbs hgs hss; replace H6 := hide (H6.out.grown hgs (by intro e; injection e; omega)); replace HB := hide (HB.out.grown hgs HB.out.size (by intro k hk; injection hk; omega)); replace H13 := hide hbs; have hzw5 := hss; clear hbs hgs hss))
 try simp only [s_]
 obtain ⟨l1, HL1⟩ : ∃ x, Hid (rightsL l = x) := ⟨_, hide rfl⟩;have HR1 := hide (show rightB l1 = true by rw [← HL1.out]; exact rights_right l);have HN1 := hide (show l1.length ≤ 6 by rw [← HL1.out]; unfold rightsL; rw [rightsN_len]; omega);have HLT := hide (show ∀ x ∈ l1, x.read.lit.length ≤ 1000000 ∧ x.write.lit.length ≤ 1000000 by rw [← HL1.out]; exact rights_lit);have HW1 := hide (show ∀ x ∈ l1, x.Wf by rw [← HL1.out]; exact rights_wf HWFL.out);obtain ⟨PL, HPLE⟩ : ∃ x, Hid (packF CD.key l1 = x) := ⟨_, hide rfl⟩;have HPL := hide (show PL.length ≤ 4128 by rw [← HPLE.out]; have := packF_len CD.key l1 (fun e he => ⟨HW1.out e he, ((oneB_iff e).1 (((rightB_iff l1).1 HR1.out).1 e he)).1.2⟩); have := HN1.out; omega);have hg13W : g13 < w5.heap.size := H13.out.lt;have HCC := hide (show w5.rangeAt g13 0 (capCells CD l3) from blk_range H13.out.blk 0 _ (fun j u hu => by rw [Nat.zero_add]; exact hu));have HSC := hide (size_capL (c := CD) (l := l3) HCD.out.1.keyL HCD.out.1.fpL);refine wp_region_held_drew (S := fun w' => Below w5.heap.size w5 w') (by kernel_rfl) (Below.refl _ _).drew (fun hHeld => ?_);refine take_f 32 (i := 0) (v := .agg (capCells CD l3).toArray) rfl (fun w' hS => exec_loadAll _ _ rfl g13 0 rfl _ _ (fun j u hu => (World.cell?_of_block (hS.block g13 hg13W)).trans (HCC.out j u hu)) Tryz.underlying28 rfl HSC.out) hHeld ?_
 try simp only [s_]
 refine take_f 33 (i := 1) (v := v) rfl (fun w' hS => exec_move _ rfl (v) rfl) hHeld ?_
 try simp only [s_]
 refine wpAnyH_ready (rs := [2]) (by kernel_rfl) (by simp) (AllReadyH.cons rfl (fun K hK => ?_) AllReadyH.nil);rw [if_pos (by kernel_rfl)]
 try go_simp
 refine (entright_any v l _ ((HV.out.below (HB.out.trans (hHeld.mono HB.out.size)) (Nat.le_refl _)).more (by have := hHeld.size; have := HB.out.size; omega)) HIN.out).mono ?_;rintro e w6 ⟨v6, rfl, ho6, hb6⟩;have HE1 := hide (ho6.reads hb6.size);rw [HL1.out] at HE1;have HX := hide (hHeld.trans (hb6.mono hHeld.size));clear ho6 hb6;refine hK.out _ _ HX.out (fun hHeld => ?_);clear HX hK K
 try simp only [s_]
 refine wpAnyH_ready (rs := [3]) (by kernel_rfl) (by simp) (AllReadyH.cons rfl (fun K hK => ?_) AllReadyH.nil);rw [if_pos (by kernel_rfl)]
 try go_simp
 refine (PackDir_ref CD l3 v6 l1 _ HCD.out.1 (HL3F.out _) HE1.out HLT.out (by have := HN1.out; omega)).mono ?_;rintro e w7 ⟨v7, rfl, ho7, hb7⟩;rw [(pack_ok HCD.out.2.2.1 HCD.out.2.2.2 HR1.out).1];rw [(pack_ok HCD.out.2.2.1 HCD.out.2.2.2 HR1.out).2, HPLE.out] at ho7;have HR7 := hide (ho7.more (show w5.heap.size ≤ _ from hHeld.size));have HX := hide (hHeld.trans (hb7.mono hHeld.size));clear ho7 hb7;refine hK.out _ _ HX.out (fun hHeld => ?_);clear HX hK K
 try simp only [s_]
 refine take_f 31 (i := 4) (v := .tuple #[v7, .int .i64 0]) rfl (fun w' hS => exec_move _ rfl (.tuple #[v7, .int .i64 0]) rfl) hHeld ?_
 try simp only [s_]
 refine take_f 36 (i := 5) (v := v7) rfl (fun w' hS => exec_extractG _ rfl _ rfl _ rfl) hHeld ?_
 try simp only [s_]
 refine take_f 37 (i := 6) (v := .int .i64 0) rfl (fun w' hS => exec_extractG _ rfl _ rfl _ rfl) hHeld ?_
 try simp only [s_]
 refine take_f 15 (i := 7) (v := v7) rfl (fun w' hS => exec_assign _ rfl (v7) rfl) hHeld ?_
 try simp only [s_]
 refine take_f 16 (i := 8) (v := .int .i64 0) rfl (fun w' hS => exec_assign _ rfl (.int .i64 0) rfl) hHeld ?_
 try simp only [s_]
 refine wpAnyH_done (by kernel_rfl) ?_ _;have hr7 := HR7.out;have HPB := hide hr7.bytes;obtain ⟨B7, HBd7⟩ : ∃ k, Hid (w5.heap.size = k) := ⟨_, hide rfl⟩;rw [HBd7.out] at HR7 hr7
 have hB7 : B7 ≤ w5.heap.size ∧ w5.heap.size ≤ B7 := by have := HBd7.out; omega
 have hl13 := H13.out.lt;have hl6 := H6.out.lt;replace H6 := hide (H6.out.below hHeld H6.out.lt);replace H13 := hide (H13.out.below hHeld H13.out.lt);replace HB := hide (HB.out.trans (hHeld.mono HB.out.size));have hz7 := hHeld.size;obtain ⟨n, HPN⟩ : ∃ x, Hid (PL.length = x) := ⟨_, hide rfl⟩;have hn := HPL.out;rw [HPN.out] at hn;clear hHeld HE1 HCC HSC hr7 HL1
 go_wp2_with (first
  | go_skip)
 refine (within_any what 5 w7 HWH.out.1 HWH.out.2 (by omega)).mono ?_;rintro e w8 ⟨rfl, rfl⟩;obtain ⟨k, HKW⟩ : ∃ k, Hid (within what 5 = k) := ⟨_, hide rfl⟩;rw [HKW.out];obtain ⟨q1, HQ1⟩ : ∃ q, Hid ((k == 1) = q) := ⟨_, hide rfl⟩;obtain ⟨q2, HQ2⟩ : ∃ q, Hid ((k == 2) = q) := ⟨_, hide rfl⟩;obtain ⟨q3, HQ3⟩ : ∃ q, Hid ((k == 3) = q) := ⟨_, hide rfl⟩
 go_upto_block 0 with go_skip
 go_cut [15] from 40 to 62 (fun v15 wx => ∃ BL, Bs wx wx.heap.size v15 BL ∧ Bytes BL ∧ BL.length ≤ 16000 ∧ CapB wx g6 c lit ∧ CapB wx g13 CD l3 ∧ Below w.heap.size w wx)
 case first =>
  rcases q1 with _ | _
  case true =>
   go_wp2_with (first
    | go_skip
    | (refine wpList_val_ rfl (exec_eql_i64 _ _ _ _ rfl k 1 rfl rfl _ HQ1.out) ?_))
   refine (cut_bytes rv xs 300 w7 w.heap.size (HXS.out.below HB.out (Nat.le_refl _)) (by omega) (by omega)).mono ?_;rintro e w8 ⟨l8, rfl, hl8, rfl⟩;have HL8 := hide (show Bs w7 w7.heap.size l8 (xs.take 300) from hl8.more HB.out.size);have HX8 := hide (show (xs.take 300).length ≤ 16000 by have := List.length_take_le 300 xs; omega);clear hl8
   go_wp2_with (first
    | go_skip)
   go_meet
   exact ⟨xs.take 300, HL8.out, fun y hy => HXSB.out y (List.mem_of_mem_take hy), HX8.out, H6.out, H13.out, HB.out⟩
  rcases q2 with _ | _
  case true =>
   by_cases h0 : n = 0
   · obtain ⟨A7, c7, e7⟩ := HR7.out.shape
     rw [HPN.out] at e7;subst e7;have HN0 := hide (show decide ((0 : Int) < (n : Int)) = false from decide_eq_false (by omega));clear h0
     go_wp2_with (first
      | go_skip
      | (refine wpList_val_ rfl (exec_eql_i64 _ _ _ _ rfl k 1 rfl rfl _ HQ1.out) ?_)
      | (refine wpList_val_ rfl (exec_eql_i64 _ _ _ _ rfl k 2 rfl rfl _ HQ2.out) ?_)
      | (refine wpList_val_ rfl (exec_gtr_i64 _ _ _ _ rfl (n : Int) 0 rfl rfl _ HN0.out) ?_))
     go_meet
     exact ⟨PL, HR7.out.reads, HPB.out, by have := HPL.out; omega, H6.out, H13.out, HB.out⟩
   have HN0 := hide (show decide ((0 : Int) < (n : Int)) = true from decide_eq_true (by omega));have hr7 := HR7.out;clear HR7
   rcases hr7 with ⟨_, hp⟩ | ⟨g7, cap, cur, f, e7, h7, hBF, hf, hl, hcm, hcl, hcb, htk⟩
   · exact absurd (by rw [← HPN.out, hp]; rfl) h0
   rw [HPN.out] at e7 hl htk;subst e7;have HBF := hide hBF;have HFF := hide hf;have HCL := hide hcl;have HCM := hide hcm;have HCUB := hide hcb;have HTK := hide htk;have hl7 := hBF.lt;clear hBF hf hcl hcm hcb htk
   go_wp2_with (first
    | go_skip
    | (refine wpList_val_ rfl (exec_eql_i64 _ _ _ _ rfl k 1 rfl rfl _ HQ1.out) ?_)
    | (refine wpList_val_ rfl (exec_eql_i64 _ _ _ _ rfl k 2 rfl rfl _ HQ2.out) ?_)
    | (refine wpList_val_ rfl (exec_gtr_i64 _ _ _ _ rfl (n : Int) 0 rfl rfl _ HN0.out) ?_))
   refine (within_any at_ (n : Int) w7 HAT.out.1 HAT.out.2 (by omega)).mono ?_;rintro e w8 ⟨rfl, rfl⟩
   obtain ⟨j, hj, hjn⟩ : ∃ j : Nat, within at_ (n : Int) = (j : Int) ∧ j < n := by
    have := within_lt at_ (n : Int) (by omega);exact ⟨(within at_ (n : Int)).toNat, by omega, by omega⟩
   rw [hj];clear hj
   have k0 : (0 : Int) ≤ (j : Int) := by omega
   have k1 : (j : Int) < (n : Int) := by omega
   obtain ⟨x, HX⟩ : ∃ x, Hid (cur.getD j 0 = x) := ⟨_, hide rfl⟩;have HXP := hide (show PL.getD j 0 = x by rw [← HX.out, ← HTK.out, List.getD_eq_getElem?_getD, List.getD_eq_getElem?_getD, List.getElem?_take_of_lt hjn]);have c1 := blkF_get HBF.out j x (by rw [HCL.out]; omega) HX.out;have f1 := HBF.out.frozen j (by have := HFF.out; omega);have HXB := hide (show 0 ≤ x ∧ x < 256 by rw [← HXP.out, getD_el PL j (by rw [HPN.out]; exact hjn)]; exact HPB.out _ (List.getElem_mem _));obtain ⟨X, HXX⟩ : ∃ X, Hid (X8 x 1 = X) := ⟨_, hide rfl⟩;have HXXB := hide (show 0 ≤ X ∧ X < 256 by rw [← HXX.out]; exact x8_byte HXB.out (by omega))
   go_wp2_with go_skip
   go_meet
   rw [show bits .xor .u8 x 1 = X from HXX.out];obtain ⟨w8, HW8⟩ : ∃ u, Hid (w7.setCell ⟨g7, j, none⟩ (.int .u8 X) = u) := ⟨_, hide rfl⟩;rw [HW8.out]
   have hgs : w7.grownBy w8 (some g7) := by rw [← HW8.out]; exact (grown_setCells [.int .u8 X] w7 j).1
   have hss : w8.heap.size = w7.heap.size := by rw [← HW8.out]; exact (grown_setCells (g := g7) [.int .u8 X] w7 j).2
   have hbs : Bs w8 w8.heap.size (.slice (some ⟨g7, 0, none⟩) n cap) (PL.set j X) := by
    have hlen : (PL.set j X).length = n := by rw [List.length_set]; exact HPN.out
    have h : RowB w8 0 (.slice (some ⟨g7, 0, none⟩) n cap) (PL.set j X) := .inr ⟨g7, cap, cur.set j X, f, by rw [hlen], Nat.zero_le _, by rw [← HW8.out]; exact blkF_set HBF.out j X, HFF.out, by rw [hlen]; exact hl, HCM.out, by rw [List.length_set]; exact HCL.out, fun y hy => by
     rcases List.mem_or_eq_of_mem_set hy with hy | rfl
     · exact HCUB.out y hy
     · exact HXXB.out, by rw [hlen, List.take_set, HTK.out]⟩
    exact h.reads
   exact ⟨PL.set j X, hbs, (fun y hy => by
    rcases List.mem_or_eq_of_mem_set hy with hy | rfl
    · exact HPB.out y hy
    · exact HXXB.out), by rw [List.length_set]; have := HPN.out; omega, H6.out.grown hgs (by intro e; injection e; omega), H13.out.grown hgs (by intro e; injection e; omega), HB.out.grown hgs HB.out.size (by intro k hk; injection hk; omega)⟩
  rcases q3 with _ | _
  case true =>
   go_wp2_with (first
    | go_skip
    | (refine wpList_val_ rfl (exec_eql_i64 _ _ _ _ rfl k 1 rfl rfl _ HQ1.out) ?_)
    | (refine wpList_val_ rfl (exec_eql_i64 _ _ _ _ rfl k 2 rfl rfl _ HQ2.out) ?_)
    | (refine wpList_val_ rfl (exec_eql_i64 _ _ _ _ rfl k 3 rfl rfl _ HQ3.out) ?_)
    | (at_builtin; refine wpList_append_B rfl _ _ rfl B7 v7 PL rfl HR7.out w7.heap.size v7 PL rfl HR7.out.reads HPB.out (by have := HPL.out; omega) (by omega) ?_; intro v9 w9 ho9 hg9; have HO9 := hide ho9.reads; have HRB := hide (fun (k : Nat) (hk : v7.ownBlock = some k) => (HR7.out.base_ k hk).1); replace H6 := hide (H6.out.grown hg9 (fun e => by have := HRB.out _ e.symm; omega)); replace H13 := hide (H13.out.grown hg9 (fun e => by have := HRB.out _ e.symm; omega)); replace HB := hide (HB.out.grown hg9 HB.out.size (fun k hk => by have := HRB.out k hk; omega)); clear ho9 hg9))
   go_meet
   exact ⟨PL ++ PL, HO9.out, (fun y hy => by rcases List.mem_append.1 hy with h | h <;> exact HPB.out y h), by rw [List.length_append]; have := HPL.out; omega, H6.out, H13.out, HB.out⟩
  go_wp2_with (first
   | go_skip
   | (refine wpList_val_ rfl (exec_eql_i64 _ _ _ _ rfl k 1 rfl rfl _ HQ1.out) ?_)
   | (refine wpList_val_ rfl (exec_eql_i64 _ _ _ _ rfl k 2 rfl rfl _ HQ2.out) ?_)
   | (refine wpList_val_ rfl (exec_eql_i64 _ _ _ _ rfl k 3 rfl rfl _ HQ3.out) ?_))
  go_meet
  exact ⟨PL, HR7.out.reads, HPB.out, by have := HPL.out; omega, H6.out, H13.out, HB.out⟩
 obtain ⟨BL, hbl, hbb, hbn, h6c, h13c, hwc⟩ := hcut;have HBLB := hide hbb;have HBLN := hide hbn;replace H6 := hide h6c;replace H13 := hide h13c;replace HB := hide hwc;have hzc := hwc.size;obtain ⟨Bc, HBc⟩ : ∃ k, Hid (wc.heap.size = k) := ⟨_, hide rfl⟩
 have hBc : Bc ≤ wc.heap.size ∧ wc.heap.size ≤ Bc := by have := HBc.out; omega
 have HBL := hide (show Bs wc Bc u15 BL from hbl.more hBc.2);clear hbl hbb hbn h6c h13c hwc HR7 HPB HPN HPL hn;obtain ⟨g17, HG17⟩ : ∃ k, Hid (wc.heap.size = k) := ⟨_, hide rfl⟩
 have hg17 : g17 ≤ wc.heap.size ∧ wc.heap.size ≤ g17 := by have := HG17.out; omega
 have hlH6_17 : g6 < g17 := by have := H6.out.lt; omega
 have hlH13_17 : g13 < g17 := by have := H13.out.lt; omega
 go_wp2_with (first
  | go_skip
  | (refine wpList_cap_all _ rfl rfl rfl H13.out ?_)
  | (refine wpList_cap_zero rfl rfl ?_; intro w10 hba hwa hsa; rw [HG17.out] at hba hsa; try rw [HG17.out]; have H17 := hide hba; replace HBL := hide (HBL.out.below hwa (by omega)); replace H6 := hide (H6.out.below hwa H6.out.lt); replace H13 := hide (H13.out.below hwa H13.out.lt); replace HB := hide (HB.out.trans (hwa.mono HB.out.size)); have hzw10 := hwa.size; clear hba hwa)
  | (refine wpList_cap_putAll _ _ rfl rfl rfl H17.out CD l3 rfl HCD.out.1.keyL HCD.out.1.fpL HL31.out ?_; intro w11 hbs hgs hss; replace HBL := hide (HBL.out.below ((Below.refl Bc _).grown hgs (by omega) (by intro k hk; injection hk; omega)) (Nat.le_refl _)); replace H6 := hide (H6.out.grown hgs (by intro e; injection e; omega)); replace H13 := hide (H13.out.grown hgs (by intro e; injection e; omega)); replace HB := hide (HB.out.grown hgs HB.out.size (by intro k hk; injection hk; omega)); replace H17 := hide hbs; have hzw11 := hss; clear hbs hgs hss))
 refine (within_any less 5 w11 HLE.out.1 HLE.out.2 (by omega)).mono ?_;rintro e w12 ⟨rfl, rfl⟩;obtain ⟨m, HMW⟩ : ∃ k, Hid (within less 5 = k) := ⟨_, hide rfl⟩;rw [HMW.out];obtain ⟨p1, HP1⟩ : ∃ q, Hid ((m == 1) = q) := ⟨_, hide rfl⟩;obtain ⟨p2, HP2⟩ : ∃ q, Hid ((m == 2) = q) := ⟨_, hide rfl⟩;obtain ⟨p3, HP3⟩ : ∃ q, Hid ((m == 3) = q) := ⟨_, hide rfl⟩;have HRDX := hide (show (roF CD).Wf ∧ (roF CD).lit = [] by rw [← HCDE.out, ← HSK.out]; have h := roDir_all c.key c.fp HC.out.fpL HC.out.fpB; exact ⟨h.1, h.2.2.1⟩);clear HSW HSLT HKW HQ1 HQ2 HQ3
 go_upto_block 1 with go_skip
 go_cut [] from 66 to 80 (fun wx => ∃ D lD, D.Wf ∧ Bs wx wx.heap.size lD D.lit ∧ CapB wx g17 D lD ∧ Bs wx Bc u15 BL ∧ Bc ≤ wx.heap.size ∧ Below w.heap.size w wx)
 case first =>
  rcases p1 with _ | _
  case true =>
   go_wp2_with (first
    | go_skip
    | (refine wpList_val_ rfl (exec_eql_i64 _ _ _ _ rfl m 1 rfl rfl _ HP1.out) ?_)
    | (refine wpList_cap_all _ rfl rfl rfl H13.out ?_))
   refine (ReadOnly_ref CD l3 w11 HCD.out.1 (HL3F.out w11) (by rw [HCD.out.2.1]; simp)).mono ?_;rintro e w12 ⟨l12, rfl, hl12, hb12⟩;have HRD := hide (show (roF CD).Wf ∧ (roF CD).lit = [] from HRDX.out);obtain ⟨RD, HRDE⟩ : ∃ x, Hid (roF CD = x) := ⟨_, hide rfl⟩;rw [HRDE.out] at hl12 HRD ⊢;rw [HRD.out.2] at hl12;have HL12F := hide (fun (W : World) => show Bs W W.heap.size l12 RD.lit by rw [HRD.out.2]; exact bs_emptyV' hl12 W _);have HL121 := hide (bs_one_ hl12);clear hl12;replace HBL := hide (HBL.out.below hb12 (by omega));replace H6 := hide (H6.out.below hb12 H6.out.lt);replace H13 := hide (H13.out.below hb12 H13.out.lt);replace H17 := hide (H17.out.below hb12 H17.out.lt);replace HB := hide (HB.out.trans (hb12.mono HB.out.size));have hz12 := hb12.size;clear hb12
   go_wp2_with (first
    | go_skip
    | (refine wpList_cap_putAll _ _ rfl rfl rfl H17.out RD l12 rfl HRD.out.1.keyL HRD.out.1.fpL HL121.out ?_; intro w12b hbs hgs hss; replace HBL := hide (HBL.out.below ((Below.refl Bc _).grown hgs (by omega) (by intro k hk; injection hk; omega)) (Nat.le_refl _)); replace H6 := hide (H6.out.grown hgs (by intro e; injection e; omega)); replace H13 := hide (H13.out.grown hgs (by intro e; injection e; omega)); replace HB := hide (HB.out.grown hgs HB.out.size (by intro k hk; injection hk; omega)); replace H17 := hide hbs; have hzw12b := hss; clear hbs hgs hss))
   go_meet
   exact ⟨RD, l12, HRD.out.1, HL12F.out _, H17.out, HBL.out, by omega, HB.out⟩
  rcases p2 with _ | _
  case true =>
   go_wp2_with (first
    | go_skip
    | (refine wpList_val_ rfl (exec_eql_i64 _ _ _ _ rfl m 1 rfl rfl _ HP1.out) ?_)
    | (refine wpList_val_ rfl (exec_eql_i64 _ _ _ _ rfl m 2 rfl rfl _ HP2.out) ?_)
    | (refine wpList_cap_all _ rfl rfl rfl H13.out ?_))
   refine (ReadOnly_ref CD l3 w11 HCD.out.1 (HL3F.out w11) (by rw [HCD.out.2.1]; simp)).mono ?_;rintro e w12 ⟨l12, rfl, hl12, hb12⟩;have HRD := hide (show (roF CD).Wf ∧ (roF CD).lit = [] from HRDX.out);obtain ⟨RD, HRDE⟩ : ∃ x, Hid (roF CD = x) := ⟨_, hide rfl⟩;rw [HRDE.out] at hl12 HRD ⊢;rw [HRD.out.2] at hl12;have HL12F := hide (fun (W : World) => show Bs W W.heap.size l12 RD.lit by rw [HRD.out.2]; exact bs_emptyV' hl12 W _);have HL121 := hide (bs_one_ hl12);clear hl12;replace HBL := hide (HBL.out.below hb12 (by omega));replace H6 := hide (H6.out.below hb12 H6.out.lt);replace H13 := hide (H13.out.below hb12 H13.out.lt);replace H17 := hide (H17.out.below hb12 H17.out.lt);replace HB := hide (HB.out.trans (hb12.mono HB.out.size));have hz12 := hb12.size;clear hb12
   go_wp2_with (first
    | go_skip
    | (refine wpList_cap_putAll _ _ rfl rfl rfl H17.out RD l12 rfl HRD.out.1.keyL HRD.out.1.fpL HL121.out ?_; intro w12b hbs hgs hss; replace HBL := hide (HBL.out.below ((Below.refl Bc _).grown hgs (by omega) (by intro k hk; injection hk; omega)) (Nat.le_refl _)); replace H6 := hide (H6.out.grown hgs (by intro e; injection e; omega)); replace H13 := hide (H13.out.grown hgs (by intro e; injection e; omega)); replace HB := hide (HB.out.grown hgs HB.out.size (by intro k hk; injection hk; omega)); replace H17 := hide hbs; have hzw12b := hss; clear hbs hgs hss))
   go_meet
   exact ⟨RD, l12, HRD.out.1, HL12F.out _, H17.out, HBL.out, by omega, HB.out⟩
  rcases p3 with _ | _
  case true =>
   go_wp2_with (first
    | go_skip
    | (refine wpList_val_ rfl (exec_eql_i64 _ _ _ _ rfl m 1 rfl rfl _ HP1.out) ?_)
    | (refine wpList_val_ rfl (exec_eql_i64 _ _ _ _ rfl m 2 rfl rfl _ HP2.out) ?_)
    | (refine wpList_val_ rfl (exec_eql_i64 _ _ _ _ rfl m 3 rfl rfl _ HP3.out) ?_)
    | (refine wpList_cap_all _ rfl rfl rfl H6.out ?_)
    | (refine wpList_cap_lit _ rfl rfl rfl H6.out ?_)
    | (refine wpList_cap_putAll _ _ rfl rfl rfl H17.out c lit rfl HC.out.keyL HC.out.fpL hl1 ?_; intro w12 hbs hgs hss; replace HBL := hide (HBL.out.below ((Below.refl Bc _).grown hgs (by omega) (by intro k hk; injection hk; omega)) (Nat.le_refl _)); replace H6 := hide (H6.out.grown hgs (by intro e; injection e; omega)); replace H13 := hide (H13.out.grown hgs (by intro e; injection e; omega)); replace HB := hide (HB.out.grown hgs HB.out.size (by intro k hk; injection hk; omega)); replace H17 := hide hbs; have hzw12 := hss; clear hbs hgs hss))
   refine (cut_bytes lit c.lit 70 w12 w.heap.size (HL.out.below HB.out (Nat.le_refl _)) (by omega) (by omega)).mono ?_;rintro e w12' ⟨l12, rfl, hl12, rfl⟩;have HL2 := hide (show Bs w12 w.heap.size l12 (c.lit.take 70) from hl12);have HC2 := hide (HC.out.cut 70);obtain ⟨c2, HCE⟩ : ∃ x, Hid (({ c with lit := c.lit.take 70 } : CapD) = x) := ⟨_, hide rfl⟩;have HCL := hide (show c.lit.take 70 = c2.lit by rw [← HCE.out]);rw [HCE.out] at HC2;rw [HCL.out] at HL2;clear hl12
   go_wp2_with (first
    | go_skip
    | (refine wpList_cap_putLit _ _ rfl rfl rfl H17.out l12 rfl (bs_one_ HL2.out) (c.lit.take 70) ?_; intro w12b hbl hgs hss; rw [HCE.out] at hbl; replace HL2 := hide (HL2.out.below ((Below.refl w.heap.size w12).grown hgs (by omega) (by intro k hk; injection hk; omega)) (Nat.le_refl _)); replace HBL := hide (HBL.out.below ((Below.refl Bc _).grown hgs (by omega) (by intro k hk; injection hk; omega)) (Nat.le_refl _)); replace H6 := hide (H6.out.grown hgs (by intro e; injection e; omega)); replace H13 := hide (H13.out.grown hgs (by intro e; injection e; omega)); replace HB := hide (HB.out.grown hgs HB.out.size (by intro k hk; injection hk; omega)); replace H17 := hide hbl; have hzw12b := hss; clear hbl hgs hss))
   go_meet
   exact ⟨c2, l12, HC2.out, HL2.out.more HB.out.size, H17.out, HBL.out, by omega, HB.out⟩
  go_wp2_with (first
   | go_skip
   | (refine wpList_val_ rfl (exec_eql_i64 _ _ _ _ rfl m 1 rfl rfl _ HP1.out) ?_)
   | (refine wpList_val_ rfl (exec_eql_i64 _ _ _ _ rfl m 2 rfl rfl _ HP2.out) ?_)
   | (refine wpList_val_ rfl (exec_eql_i64 _ _ _ _ rfl m 3 rfl rfl _ HP3.out) ?_))
  go_meet
  exact ⟨CD, l3, HCD.out.1, HL3F.out _, H17.out, HBL.out, by omega, HB.out⟩
 obtain ⟨D, lD, hwd, hld, h17c, hblc, hBcd, hwc2⟩ := hcut;have HWD := hide hwd;replace H17 := hide h17c;replace HBL := hide hblc;replace HB := hide hwc2;clear H6 H13 HP1 HP2 HP3 HMW;have hzd := hwc2.size;obtain ⟨Bd, HBd⟩ : ∃ k, Hid (wc.heap.size = k) := ⟨_, hide rfl⟩
 have hBd : Bd ≤ wc.heap.size ∧ wc.heap.size ≤ Bd := by have := HBd.out; omega
 have HLD := hide (show Bs wc Bd lD D.lit from hld.more hBd.2);clear hwd hld h17c hblc hwc2;obtain ⟨UE, HUE⟩ : ∃ z, Hid (unpE D BL = z) := ⟨_, hide rfl⟩;obtain ⟨UR, HUR⟩ : ∃ z, Hid ((unpR D BL).getD [] = z) := ⟨_, hide rfl⟩;have HUA := hide (fun (W : World) (h : Bs W W.heap.size u15 BL) (hd : Bs W W.heap.size lD D.lit) (hT : Tab W W.heap.size) => Unpack_any D lD u15 BL W HWD.out hd h HBLB.out HBLN.out hT);have HUB := hide (fun (W : World) (h : Bs W W.heap.size u15 BL) (hd : Bs W W.heap.size lD D.lit) => UnpackDir_ref D lD u15 BL W HWD.out hd h HBLB.out HBLN.out);rw [HUE.out, HUR.out] at HUA HUB;have HEE := hide (show (UE == UE) = true by simp)
 go_wp2_with (first
  | go_skip
  | (refine wpList_cap_all _ rfl rfl rfl H17.out ?_))
 refine (HUA.out wc (HBL.out.more (by omega)) (HLD.out.more (by omega)) ((HT.out.below HB.out (Nat.le_refl _)).more HB.out.size)).mono ?_;rintro e w13 ⟨v13, rfl, ho13, hb13⟩;have HO13 := hide (ho13.reads hb13.size);clear ho13;replace HBL := hide (HBL.out.below hb13 (by omega));replace HLD := hide (HLD.out.below hb13 (by omega));replace H17 := hide (H17.out.below hb13 H17.out.lt);replace HB := hide (HB.out.trans (hb13.mono HB.out.size));have hz13 := hb13.size;clear hb13;obtain ⟨B13, HBd13⟩ : ∃ k, Hid (w13.heap.size = k) := ⟨_, hide rfl⟩
 have hBd13 : B13 ≤ w13.heap.size ∧ w13.heap.size ≤ B13 := by have := HBd13.out; omega
 have HE13 := hide (show EntsB w13 B13 v13 UR from (HO13.out).more hBd13.2);clear HO13 HUA
 go_wp2_with (first
  | go_skip
  | (refine wpList_cap_all _ rfl rfl rfl H17.out ?_))
 refine (HUB.out w13 (HBL.out.more (by omega)) (HLD.out.more (by omega))).mono ?_;rintro e w14 ⟨v14, rfl, ho14, hb14⟩;have HO14 := hide (ho14.reads hb14.size);clear ho14;replace HBL := hide (HBL.out.below hb14 (by omega));replace HLD := hide (HLD.out.below hb14 (by omega));replace HE13 := hide (HE13.out.below hb14 (by omega));replace H17 := hide (H17.out.below hb14 H17.out.lt);replace HB := hide (HB.out.trans (hb14.mono HB.out.size));have hz14 := hb14.size;clear hb14;obtain ⟨B14, HBd14⟩ : ∃ k, Hid (w14.heap.size = k) := ⟨_, hide rfl⟩
 have hBd14 : B14 ≤ w14.heap.size ∧ w14.heap.size ≤ B14 := by have := HBd14.out; omega
 have HE14 := hide (show EntsB w14 B14 v14 UR from (HO14.out).more hBd14.2);clear HO14 HUB
 go_wp2_with (first
  | go_skip
  | (refine wpList_val_ rfl (exec_eql_i64 _ _ _ _ rfl UE UE rfl rfl _ HEE.out) ?_))
 refine (keep_same v13 v14 UR w14 w14.heap.size (Nat.le_refl _) (HE13.out.more (by omega)) (HE14.out.more (by omega))).mono ?_;rintro e w15 ⟨rfl, hb15⟩;replace HBL := hide (HBL.out.below hb15 (by omega));replace HLD := hide (HLD.out.below hb15 (by omega));replace HE13 := hide (HE13.out.below hb15 (by omega));replace HE14 := hide (HE14.out.below hb15 (by omega));replace H17 := hide (H17.out.below hb15 H17.out.lt);replace HB := hide (HB.out.trans (hb15.mono HB.out.size));have hz15 := hb15.size;clear hb15
 go_wp2_with (first
  | go_skip)
 refine (wakes23 w15 ((HT.out.below HB.out (Nat.le_refl _)).more HB.out.size)).mono ?_;rintro e w16 ⟨rfl, hb16⟩;replace HBL := hide (HBL.out.below hb16 (by omega));replace HLD := hide (HLD.out.below hb16 (by omega));replace HE13 := hide (HE13.out.below hb16 (by omega));replace HE14 := hide (HE14.out.below hb16 (by omega));replace H17 := hide (H17.out.below hb16 H17.out.lt);replace HB := hide (HB.out.trans (hb16.mono HB.out.size));have hz16 := hb16.size;clear hb16
 go_wp2_with go_skip
 go_ret
 exact ⟨rfl, HB.out⟩
set_option maxRecDepth 100000 in
theorem lifted (os : Os) (started : os.Started) (H : Type) (enc : TypeId × Value → H) :
 ReturnsInHanded {} Tryz.checked os 3 .any (fun w args => (Rows.dirsUnpacksSpec.pre enc Tryz.prog Tryz.f3 [] false w args ∧ laidMetH Tryz.prog laidD w) ∧ sizedMet enc Tryz.prog Tryz.f3 (OpenSpec.ofChange Rows.dirsUnpacksSpec) false w args)
  (Rows.dirsUnpacksSpec.post enc Tryz.prog Tryz.f3 false true false false) := by
 refine returnsInHanded_of_change_and (C := Tryz.checked) (X := fun w _ => laidMetH Tryz.prog laidD w) (fun _ _ _ hh h => h.of_heap hh) own started (by kernel_rfl) Tryz.func3
  (ChangeSpec.witness_shaped (enc := enc) (C := Tryz.checked) (os := os) (X := fun w _ => laidMetH Tryz.prog laidD w) false (World.doorLaid Tryz.prog doorSteps os) #[capV CapD.none_ (.slice none 0 0), .slice none 0 0, .slice none 0 0, .int .i64 0, .int .i64 0, .int .i64 0] 8 rfl (World.shaped_of_RefB (by kernel_rfl) (by kernel_rfl)) (by kernel_rfl) (by kernel_rfl) (by kernel_rfl) (door_met os _)) ?_
 intro W base args ds gs before hval0 hW _ _ hL _;have hT := tab_of hL;have hval : ∀ (j : Nat) t v, Tryz.f3.params[j]? = some t → args[j]? = some v → Value.okWide Tryz.prog W .any base t v := hval0;have hW' := hW;obtain ⟨p, q, hA0, hV, rfl, hfz, hnd⟩ := hW;have hA : DataW.TrodAll enc Tryz.prog W 0 (fun _ => true) true Tryz.f3.params.toList args.toList ds p := hA0;rw [Tryz.params3] at hA hval;obtain ⟨v0, vs0, d0, ds0, p0, q0, hargs, rfl, rfl, h0, r0⟩ := trodAll_cons hA;obtain ⟨v1, vs1, d1, ds1, p1, q1, rfl, rfl, rfl, h1, r1⟩ := trodAll_cons r0;obtain ⟨v2, vs2, d2, ds2, p2, q2, rfl, rfl, rfl, h2, r2⟩ := trodAll_cons r1;obtain ⟨v3, vs3, d3, ds3, p3, q3, rfl, rfl, rfl, h3, r3⟩ := trodAll_cons r2;obtain ⟨v4, vs4, d4, ds4, p4, q4, rfl, rfl, rfl, h4, r4⟩ := trodAll_cons r3;obtain ⟨v5, vs5, d5, ds5, p5, q5, rfl, rfl, rfl, h5, r5⟩ := trodAll_cons r4;obtain ⟨rfl, rfl, rfl⟩ := trodAll_nil r5
 obtain rfl : args = #[v0, v1, v2, v3, v4, v5] := by cases args; simp_all
 obtain ⟨rfl, rfl⟩ := trodVars_none hV;have k0 := h0
 have lt0 : ∀ x ∈ p0, x.block < W.heap.size := by obtain ⟨m, hm⟩ := k0; exact DataW.trod_lt m _ _ _ hm
 obtain ⟨z0, l0, rfl, w0, b0⟩ := read_cap (hval 0 28 v0 rfl rfl) h0;have k1 := h1
 have lt1 : ∀ x ∈ p1, x.block < W.heap.size := by obtain ⟨m, hm⟩ := k1; exact DataW.trod_lt m _ _ _ hm
 obtain ⟨z1, w1, b1⟩ := read_ents (hval 1 29 v1 rfl rfl) h1;obtain ⟨s2, len2, cap2, rfl⟩ := okWide_slice Tryz.underlying26 (hval 2 26 v2 rfl rfl);have k2 := h2
 have lt2 : ∀ x ∈ p2, x.block < W.heap.size := by obtain ⟨m, hm⟩ := k2; exact DataW.trod_lt m _ _ _ hm
 obtain ⟨z2, w2, b2⟩ := read_bytes h2;obtain ⟨a3, rfl, rfl, rfl, wf3⟩ := open_int Tryz.underlying3 (hval 3 3 v3 rfl rfl) h3;obtain ⟨a4, rfl, rfl, rfl, wf4⟩ := open_int Tryz.underlying3 (hval 4 3 v4 rfl rfl) h4;obtain ⟨a5, rfl, rfl, rfl, wf5⟩ := open_int Tryz.underlying3 (hval 5 3 v5 rfl rfl) h5;clear hA0 hval0
 refine (walk W hT z0 l0 w0 b0 v1 z1 w1 b1 _ z2 w2 b2 a3 (in64_wf wf3) a4 (in64_wf wf4) a5 (in64_wf wf5)).mono fun e W' ⟨he, bel⟩ => ?_
 subst he;exact ⟨_, rfl, _, _, _, [], _, [], hW', trodAll_mk1 (shut_bool Tryz.underlying4 _), (trodAll_cons_mk (Below.trod laidOut (by kernel_rfl) (of_decide_eq_true (by kernel_rfl)) k0 bel lt0) (trodAll_cons_mk (Below.trod laidOut (by kernel_rfl) (of_decide_eq_true (by kernel_rfl)) k1 bel lt1) (trodAll_cons_mk (Below.trod laidOut (by kernel_rfl) (of_decide_eq_true (by kernel_rfl)) k2 bel lt2) (trodAll_cons_mk (shut_int Tryz.underlying3 wf3) (trodAll_cons_mk (shut_int Tryz.underlying3 wf4) (trodAll_cons_mk (shut_int Tryz.underlying3 wf5) trodAll_mk0)))))), rfl, bel.frame _, fun h => by cases h⟩

theorem over : Rows.dirsUnpacksRow.holds Tryz.pinned (OpenSpec.ofChange Rows.dirsUnpacksSpec) :=
 OpenClaim.holds_of_wide 3 Tryz.f3 rfl rfl rfl rfl rfl rfl rfl ⟨rfl, rfl, rfl, rfl, rfl⟩ rfl rfl rfl rfl rfl (by kernel_rfl) Tryz.func3 (by kernel_rfl)
  (of_decide_eq_true (by kernel_rfl)) (by unfold Func.isWrapper; rw [if_neg (of_decide_eq_false (by kernel_rfl))]; exact ⟨rfl, rfl⟩)
  (fun os started H enc _ => lifted os started H enc)

theorem proved : Rows.DirsUnpacksCardSaid :=
 Claim7.holds_tied_plain_at .later [] Rows.dirsUnpacksCard.laidKinds true Rows.dirsUnpacksCard.stood.harness Rows.dirsUnpacksCard.stood.looks
  over (fun _ h => by cases h) (by kernel_rfl) (fun _ h => by cases h) dirsUnpacks_row_tie rfl ⟨rfl, rfl⟩ (by kernel_rfl) rfl
  (fun f fn hf hfn => by
   obtain rfl : f = 3 := Option.some.inj ((show Tryz.prog.funcNamed "aumbry/aumbrylaw23.DirsUnpacks" = some 3 by kernel_rfl).symm.trans hf) |>.symm
   obtain rfl : fn = Tryz.f3 := (Option.some.inj (Tryz.func3.symm.trans hfn)).symm
   exact ⟨by kernel_rfl, fun j t ht => by
    have ht' : Tryz.f3.params[j]? = some t := ht;rw [Tryz.params3] at ht'
    have hm : t ∈ [28, 29, 26, 3, 3, 3] := by simpa using Array.mem_of_getElem? ht'
    have hall : ([28, 29, 26, 3, 3, 3].all fun u => !Tryz.prog.wantsStandIn u) = true := by kernel_rfl
    exact (show Tryz.prog.wantsStandIn t = false by simpa using List.all_eq_true.1 hall t hm)⟩)
  (by kernel_rfl)
end Go.Proofs.YthdjgebbjogmiaaGreatDoor.LawDirsUnpacks
