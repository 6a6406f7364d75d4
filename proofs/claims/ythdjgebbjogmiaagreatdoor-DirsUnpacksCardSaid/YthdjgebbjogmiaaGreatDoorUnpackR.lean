/- The document's UnpackDir: the directory of bytes. Condition: at most sixteen thousand bytes. -/
import Derived.Test.YthdjgebbjogmiaaGreatDoorJoin24
import Derived.Test.YthdjgebbjogmiaaGreatDoorDirRightR
import Derived.Test.YthdjgebbjogmiaaGreatDoorJoin25
import Derived.Test.YthdjgebbjogmiaaGreatDoorParseRef
import Derived.Test.YthdjgebbjogmiaaGreatDoorJoin27
set_option linter.unusedVariables false
set_option linter.unusedSimpArgs false
namespace Go.Proofs.YthdjgebbjogmiaaGreatDoor
open Go Go.RowKit
set_option linter.unusedVariables false
set_option linter.unusedSimpArgs false
set_option maxRecDepth 100000
/-- The document's Parse in one form. -/
theorem Parse_ur (xs : List Int) (w : World) (hx : Bytes xs) (hn : xs.length ≤ 16000) :
 Calls Tryz.prog 33 #[.string (strOfNums xs)] w fun e w' => ∃ (c : CapD) (l : Value) (er : Int), e = .returned (.tuple #[capV c l, .int .i64 er]) ∧ c.Wf ∧ RowB w' w.heap.size l c.lit ∧ ((parseF xs = some c ∧ er = 0) ∨ (parseF xs = none ∧ er = 2)) ∧ Below w.heap.size w w' := by
 refine (Parse_ref (strOfNums xs) w (by rw [strOfNums_size]; exact hn)).mono fun e w' h => ?_
 unfold ParsePost at h;rw [strB_of hx] at h
 rcases h with ⟨c, l, h1, h2, h3, h4⟩ | ⟨h1, h2, h3⟩
 · exact ⟨c, l, 0, h2, ((parse_iff _ _).1 h1).1, h3, .inl ⟨h1, rfl⟩, h4⟩
 · exact ⟨CapD.none_, .slice none 0 0, 2, h2, CapD.none_wf, RowB.nil_ _ _, .inr ⟨h1, rfl⟩, h3⟩
set_option maxHeartbeats 16000000
theorem UnpackDir_ref (c : CapD) (lit v : Value) (b : List Int) (w : World) (hc : c.Wf) (hlt : Bs w w.heap.size lit c.lit) (hv : Bs w w.heap.size v b) (hb : Bytes b) (hn : b.length ≤ 16000) :
 Calls Tryz.prog 12 #[capV c lit, v] w fun r w' => ∃ v', r = .returned (.tuple #[v', .int .i64 (unpE c b)]) ∧ OwnEnts w' w.heap.size 0 v' ((unpR c b).getD []) ∧ Below w.heap.size w w' := by
 have HC := hide hc;have HV := hide hv;have HBY := hide hb;have hl1 := bs_one_ hlt;have HVA := hide (fun (w' : World) => Valid_ref c lit w' (capV_of hc.keyL hc.fpL hlt));obtain ⟨kd, HKD⟩ : ∃ k, Hid (c.kind = k) := ⟨_, hide rfl⟩;have HX0 := hide (show capInt c 0 = some kd by rw [← HKD.out]; rfl);obtain ⟨key, HKEY⟩ : ∃ k, Hid (c.key = k) := ⟨_, hide rfl⟩;obtain ⟨q7, HQ7⟩ : ∃ q, Hid ((kd == 7) = q) := ⟨_, hide rfl⟩;obtain ⟨q8, HQ8⟩ : ∃ q, Hid ((kd == 8) = q) := ⟨_, hide rfl⟩;obtain ⟨va, HVAL⟩ : ∃ q, Hid (decide c.Valid = q) := ⟨_, hide rfl⟩;obtain ⟨UF, HUF⟩ : ∃ x, Hid (unpackF q7 key b = x) := ⟨_, hide rfl⟩;obtain ⟨UE, HUE⟩ : ∃ x, Hid (unpE c b = x) := ⟨_, hide rfl⟩;obtain ⟨UR, HUR⟩ : ∃ x, Hid ((unpR c b).getD [] = x) := ⟨_, hide rfl⟩;obtain ⟨good, HGOOD⟩ : ∃ q, Hid ((va && (q7 || q8)) = q) := ⟨_, hide rfl⟩
 have HRES := hide (show UE = (if good then codeU UF else 11) ∧ UR = (if good then UF else none).getD [] by
  rw [← HUE.out, ← HUR.out];unfold unpE unpR dirRead;rw [HVAL.out, HKD.out, HKEY.out, HQ7.out, HQ8.out, HUF.out, HGOOD.out]
  exact ⟨rfl, rfl⟩)
 rw [HUE.out, HUR.out];rw [HVAL.out] at HVA;have HN7 := hide (show (kd != 7) = !q7 by rw [← HQ7.out]; rfl);have HN8 := hide (show (kd != 8) = !q8 by rw [← HQ8.out]; rfl);have HKID := hide (fun (W : World) (nm b : List Int) (u : Value) (hnm : Bytes nm) (hnl : nm.length ≤ 16000) (hu : Bs W W.heap.size u b) (hb : Bytes b) (hbl : b.length ≤ 16000) => kid_ref c lit nm b u W HC.out hl1 hnm (by omega) hu hb hbl);rw [HKEY.out] at HKID;obtain ⟨TOT, HTOT⟩ : ∃ x, Hid (unpF q7 key b = x) := ⟨_, hide rfl⟩;have HUT := hide (show UF = TOT.bind fun l => if rightB l then some l else none by rw [← HUF.out]; unfold unpackF; rw [HTOT.out]);obtain ⟨A1, c1, hve, _, _, _⟩ := hv.open_;obtain ⟨g2, HG2⟩ : ∃ k, Hid (w.heap.size = k) := ⟨_, hide rfl⟩
 have hg2 : g2 ≤ w.heap.size ∧ w.heap.size ≤ g2 := by have := HG2.out; omega
 clear hc hlt hv hb HVAL HUE HUR hve
 go_enter Tryz.func12, Tryz.ntmps12
 go_upto_region 1 with (first
  | (refine wpList_cap_new (c := c) (lit := lit) _ rfl rfl rfl HC.out.keyL HC.out.fpL hl1 ?_; intro w0 hb0 hw0 hs0; rw [HG2.out] at hb0; try rw [HG2.out]; have H2 := hide hb0; have HW0 := hide hw0; clear hb0 hw0 hs0))
 try simp only [s_]
 go_cut [26] from 14 to 26 (fun v25 wx => v25 = .bool (!good) ∧ CapB wx g2 c lit ∧ Below w.heap.size w wx)
 case first =>
  go_wp2_with (first
   | go_skip
   | (refine wpList_cap_all _ rfl rfl rfl H2.out ?_))
  refine (HVA.out _).mono ?_;rintro _ w1 ⟨rfl, hb1⟩;replace H2 := hide (H2.out.below hb1 H2.out.lt);replace HW0 := hide (HW0.out.trans (hb1.mono HW0.out.size));clear hb1 HVA
  rcases va with _ | _
  case false =>
   have HGG := hide (show good = false by rw [← HGOOD.out]; rfl)
   go_wp2_with (first
    | go_skip
    | (refine wpList_cap_int _ rfl 0 rfl rfl H2.out kd HX0.out ?_)
    | (refine wpList_val_ rfl (exec_neq_i64 _ _ _ _ rfl kd 7 rfl rfl _ HN7.out) ?_)
    | (refine wpList_val_ rfl (exec_neq_i64 _ _ _ _ rfl kd 8 rfl rfl _ HN8.out) ?_))
   go_meet
   exact ⟨by rw [HGG.out]; rfl, H2.out, HW0.out⟩
  rcases q7 with _ | _
  case false =>
   rcases q8 with _ | _
   case false =>
    have HGG := hide (show good = false by rw [← HGOOD.out]; rfl)
    go_wp2_with (first
     | go_skip
     | (refine wpList_cap_int _ rfl 0 rfl rfl H2.out kd HX0.out ?_)
     | (refine wpList_val_ rfl (exec_neq_i64 _ _ _ _ rfl kd 7 rfl rfl _ HN7.out) ?_)
     | (refine wpList_val_ rfl (exec_neq_i64 _ _ _ _ rfl kd 8 rfl rfl _ HN8.out) ?_))
    go_meet
    exact ⟨by rw [HGG.out]; rfl, H2.out, HW0.out⟩
   have HGG := hide (show good = true by rw [← HGOOD.out]; rfl)
   go_wp2_with (first
    | go_skip
    | (refine wpList_cap_int _ rfl 0 rfl rfl H2.out kd HX0.out ?_)
    | (refine wpList_val_ rfl (exec_neq_i64 _ _ _ _ rfl kd 7 rfl rfl _ HN7.out) ?_)
    | (refine wpList_val_ rfl (exec_neq_i64 _ _ _ _ rfl kd 8 rfl rfl _ HN8.out) ?_))
   go_meet
   exact ⟨by rw [HGG.out]; rfl, H2.out, HW0.out⟩
  have HGG := hide (show good = true by rw [← HGOOD.out]; simp)
  go_wp2_with (first
   | go_skip
   | (refine wpList_cap_int _ rfl 0 rfl rfl H2.out kd HX0.out ?_)
   | (refine wpList_val_ rfl (exec_neq_i64 _ _ _ _ rfl kd 7 rfl rfl _ HN7.out) ?_)
   | (refine wpList_val_ rfl (exec_neq_i64 _ _ _ _ rfl kd 8 rfl rfl _ HN8.out) ?_))
  go_meet
  exact ⟨by rw [HGG.out]; rfl, H2.out, HW0.out⟩
 obtain ⟨rfl, h2c, hw1⟩ := hcut;have H2 := hide h2c;have HW1 := hide hw1;have hz1 := hw1.size;clear h2c hw1;obtain ⟨base, HBASE⟩ : ∃ k, Hid (wc.heap.size = k) := ⟨_, hide rfl⟩
 have hbw : wc.heap.size ≤ base ∧ base ≤ wc.heap.size := by have := HBASE.out; omega
 have hbase : w.heap.size ≤ base := by omega
 have hg2b : g2 < base := by have := H2.out.lt; omega
 rcases good with _ | _
 case false =>
  go_wp2_with go_skip
  go_ret2
  exact ⟨.slice none 0 0, by rw [HRES.out.1]; rfl, by rw [HRES.out.2]; exact OwnEnts.nil_ _ (Nat.zero_le _), HW1.out⟩
 have HRS := hide (show UE = codeU UF ∧ UR = UF.getD [] from ⟨HRES.out.1, HRES.out.2⟩);have HNONE := hide (fun (h : UF = none) => show UE = 2 ∧ UR = [] by rw [HRS.out.1, HRS.out.2, h]; exact ⟨rfl, rfl⟩);have HSOME := hide (fun (l : List EntD) (h : UF = some l) => show UE = 0 ∧ UR = l by rw [HRS.out.1, HRS.out.2, h]; exact ⟨rfl, rfl⟩);have HTN := hide (fun (h : TOT = none) => show UF = none by rw [HUT.out, h]; rfl);have HBe := hide (Below.refl base wc);have HLV := hide (show Bs wc w.heap.size v b from HV.out.below HW1.out (Nat.le_refl _));clear HRES HRS HGOOD
 go_wp2_with go_skip
 go_loopw [6, 7] (fun v6 v7 wr => ∃ (left : List Int) (out : List EntD), Bs wr w.heap.size v7 left ∧ Bytes left ∧ out.length + left.length ≤ 16000 ∧ OwnEnts wr base 0 v6 out ∧ (unpF q7 key left).map (out ++ ·) = TOT ∧ (∀ e ∈ out, e.read.lit.length ≤ 1000000 ∧ e.write.lit.length ≤ 1000000) ∧ Below base wc wr) (fun _ v7 _ => lenD v7)
 case atStart => exact ⟨b, [], HLV.out, HBY.out, by simp; exact hn, OwnEnts.nil_ _ (Nat.zero_le _), by rw [HTOT.out]; cases TOT <;> rfl, (fun e he => by cases he), HBe.out⟩
 case round =>
  obtain ⟨left, out, hll, hlb, hln, how, heq, hoi, hb⟩ := hrel;have HLL := hide hll;have HLB := hide hlb;have HOWN := hide how;have HEQ := hide heq;have HOI := hide hoi;have HB := hide hb;have hzr : base ≤ wr.heap.size := Nat.le_trans hbw.2 hb.size;replace H2 := hide (H2.out.below hb hg2b);obtain ⟨A7, c7, e7, _, _, _⟩ := hll.open_;obtain ⟨nl, HNL⟩ : ∃ k, Hid (left.length = k) := ⟨_, hide rfl⟩;rw [HNL.out] at e7;subst e7;clear hll hlb how heq hoi hb HBe
  by_cases hlt : 0 < nl
  · have hlt' : (0 : Int) < (nl : Int) := by omega
    go_wp2_with go_skip
    refine (TakeNet_ref (.slice A7 nl c7) left wr w.heap.size (by omega) HLL.out HLB.out (by omega)).mono ?_;rintro e w2 (⟨v1, v2, x, rr, htk, rfl, hr1, hr2, hb2⟩ | ⟨htk, rfl, hb2⟩)
    case inr =>
     have HUN := hide (HNONE.out (HTN.out (by rw [← HEQ.out, unp_none q7 key htk (by rw [HNL.out]; exact hlt)]; rfl)));clear htk;replace H2 := hide (H2.out.below hb2 H2.out.lt);replace HB := hide (HB.out.trans (hb2.mono (by omega)));have hz_hb2 := hb2.size;clear hb2
     go_wp2_with (first
      | go_skip)
     go_ret2
     exact ⟨.slice none 0 0, by rw [HUN.out.1]; rfl, by rw [HUN.out.2]; exact OwnEnts.nil_ _ (Nat.zero_le _), HW1.out.trans (HB.out.mono hbase)⟩
    have HTK := hide htk;have HXB := hide (take_bytes HLB.out htk);have hxl := take_len htk;have hrl := d_take_lt htk;have HX1 := hide hr1;have HLR := hide hr2;replace H2 := hide (H2.out.below hb2 H2.out.lt);replace HOWN := hide (HOWN.out.keptB hb2 (by omega));replace HB := hide (HB.out.trans (hb2.mono (by omega)));have hz_hb2 := hb2.size;clear hb2 hr1 hr2 htk HLL
    go_wp2_with go_skip
    refine (TakeNets_ref v1 x 3 w2 (HX1.out.more (by omega)) HXB.out.1 (by omega) (by omega)).mono ?_;rintro e w3 (⟨v3, l3, ht3, rfl, ho3, hb3⟩ | ⟨ht3, rfl, hb3⟩)
    case inr =>
     have HUN := hide (HNONE.out (HTN.out (by
      rw [← HEQ.out, unp_take q7 key HTK.out];unfold entOf;rw [show takesF 3 x = none from ht3]
      rfl)))
     clear ht3;replace H2 := hide (H2.out.below hb3 H2.out.lt);replace HB := hide (HB.out.trans (hb3.mono (by omega)));have hz_hb3 := hb3.size;clear hb3
     go_wp2_with (first
      | go_skip)
     go_ret2
     exact ⟨.slice none 0 0, by rw [HUN.out.1]; rfl, by rw [HUN.out.2]; exact OwnEnts.nil_ _ (Nat.zero_le _), HW1.out.trans (HB.out.mono hbase)⟩
    have hs3 := takes_sound 3 x l3 ht3;obtain ⟨a, b3, d, rfl⟩ := three_ hs3.2;have HTK3 := hide (show takesF 3 x = some [a, b3, d] from ht3);have hsm := d_takes_small 3 x _ ht3;have hla : a.length ≤ 16000 := Nat.le_trans (hsm a (by simp)) (by omega);have hlb : b3.length ≤ 16000 := Nat.le_trans (hsm b3 (by simp)) (by omega);have hld : d.length ≤ 16000 := Nat.le_trans (hsm d (by simp)) (by omega)
    have HBY3 := hide (show Bytes a ∧ Bytes b3 ∧ Bytes d by
     have h := HXB.out.1;rw [hs3.1] at h;have h' := netsF_parts _ h
     exact ⟨h' a (by simp), h' b3 (by simp), h' d (by simp)⟩)
    have HOFE := hide (show entOf q7 key x = (parseF b3).bind fun r => if q7 && decide (0 < d.length) then (parseF (kidF key a d)).map (fun z => (⟨a, r, z, true⟩ : EntD)) else some ⟨a, r, CapD.none_, false⟩ by unfold entOf; rw [HTK3.out]; rfl);have HBAD := hide (fun (h : entOf q7 key x = none) => HNONE.out (HTN.out (by rw [← HEQ.out, unp_take q7 key HTK.out, h]; rfl)))
    have HGOOD := hide (fun (y : EntD) (h : entOf q7 key x = some y) => show (unpF q7 key rr).map ((out ++ [y]) ++ ·) = TOT by
     rw [← HEQ.out, unp_take q7 key HTK.out, h]
     cases unpF q7 key rr <;> simp)
    have HYLIT := hide (fun (y : EntD) (h : entOf q7 key x = some y) => entOf_lit h);obtain ⟨OF, HOF⟩ : ∃ o, Hid (entOf q7 key x = o) := ⟨_, hide rfl⟩;rw [HOF.out] at HOFE HBAD HGOOD HYLIT;have hrd := ho3.reads hb3.size;obtain ⟨A3, c3, rfl, h31, h32, h33⟩ := hrd.open_;obtain ⟨br, or_, rfl, hbrb, hcr⟩ := h33 (by simp);obtain ⟨u0, hu0, hbu0⟩ := hcr 0 (by simp);obtain ⟨u1, hu1, hbu1⟩ := hcr 1 (by simp);obtain ⟨u2, hu2, hbu2⟩ := hcr 2 (by simp);have HU0 := hide (show Bs w3 w3.heap.size u0 a from hbu0);have HU1 := hide (show Bs w3 w3.heap.size u1 b3 from hbu1);have HU2 := hide (show Bs w3 w3.heap.size u2 d from hbu2);have HR0 := hide (show w3.cell? ⟨br, or_, none⟩ = some u0 from hu0);have HR1 := hide (show w3.cell? ⟨br, or_ + 1, none⟩ = some u1 from hu1);have HR2 := hide (show w3.cell? ⟨br, or_ + 2, none⟩ = some u2 from hu2);replace HLR := hide (HLR.out.below hb3 (by omega));replace H2 := hide (H2.out.below hb3 H2.out.lt);replace HOWN := hide (HOWN.out.keptB hb3 (by omega));replace HB := hide (HB.out.trans (hb3.mono (by omega)));have hz_hb3 := hb3.size;have HRB := hide HXB.out.2;clear hb3 ht3 hs3 hsm hrd h31 h33 hcr hu0 hu1 hu2 hbu0 hbu1 hbu2 ho3 HX1 HTK HTK3 HOF HXB HEQ;have HLX := hide (show LenE (⟨a, CapD.none_, CapD.none_, false⟩ : EntD) ∧ LenW (⟨a, CapD.none_, CapD.none_, false⟩ : EntD) from ⟨⟨rfl, rfl⟩, ⟨rfl, rfl⟩⟩)
    have HBE := hide (show Tryz.prog.built 50 [(0, .string (strOfNums a))] = some (entC (⟨a, CapD.none_, CapD.none_, false⟩ : EntD) (.slice none 0 0) (.slice none 0 0)).toArray from built_entN _);obtain ⟨g12, HG12⟩ : ∃ k, Hid (w3.heap.size = k) := ⟨_, hide rfl⟩
    have hg12 : g12 ≤ w3.heap.size ∧ w3.heap.size ≤ g12 := by have := HG12.out; omega
    have hg2_12 : g2 < g12 := by omega
    have hb_12 : base ≤ g12 := by omega
    have HOLT := hide (fun (k : Nat) (hk : u6.ownBlock = some k) => show k < g12 by have := HOWN.out.lt k hk; omega);have HBase := hide (Below.refl w3.heap.size w3)
    go_wp2_with (first
     | go_skip
     | (refine wpList_val_ rfl (exec_load_one _ _ rfl br or_ rfl _ Tryz.underlying26 rfl _ HR0.out) ?_)
     | (refine wpList_to_string rfl _ rfl w3.heap.size u0 a rfl HU0.out ?_)
     | (refine wpList_st_build1 50 0 _ rfl rfl (.string (strOfNums a)) rfl (entC (⟨a, CapD.none_, CapD.none_, false⟩ : EntD) (.slice none 0 0) (.slice none 0 0)) HBE.out ?_)
     | (refine wpList_alloc_blk rfl 50 rfl _ zero_ent ?_; intro w4 hba hwa hsa; rw [HG12.out] at hba; try rw [HG12.out]; have H12 := hide hba; replace H2 := hide (H2.out.below hwa H2.out.lt); replace HOWN := hide (HOWN.out.keptB hwa (by omega)); replace HBase := hide hwa; replace HB := hide (HB.out.trans (hwa.mono (by omega))); have hz4 := hwa.size; clear hba hwa hsa)
     | (refine wpList_st_putAll _ _ _ rfl rfl rfl H12.out (entC (⟨a, CapD.none_, CapD.none_, false⟩ : EntD) (.slice none 0 0) (.slice none 0 0)) rfl (by rw [ent_lenL none_LE.1 none_LE.2, ent_lenL HLX.out.1 HLX.out.2]) (size_entL HLX.out.1 HLX.out.2) (ent_oneL rfl rfl) ?_; intro w5 hbs hgs hss; replace H2 := hide (H2.out.grown hgs (by intro e; injection e; omega)); replace HOWN := hide (HOWN.out.past H12.out (Nat.zero_le _) (by kernel_rfl) (fun e => Nat.lt_irrefl _ (HOLT.out _ e)) hgs (by omega)); replace HBase := hide (HBase.out.grown hgs HBase.out.size (by intro k hk; injection hk; omega)); replace HB := hide (HB.out.grown hgs (by omega) (by intro k hk; injection hk; omega)); replace H12 := hide hbs; have hz5 := hss; have HR1w := hide ((HBase.out.cell (p := ⟨br, or_ + 1, none⟩) hbrb).trans HR1.out); clear hbs hgs hss)
     | (refine wpList_val_ rfl (exec_load_one _ _ rfl br (or_ + 1) rfl _ Tryz.underlying26 rfl _ HR1w.out) ?_)
     | (refine wpList_to_string rfl _ rfl w3.heap.size u1 b3 rfl (HU1.out.below HBase.out (Nat.le_refl _)) ?_))
    refine (Parse_ur b3 w5 HBY3.out.2.1 hlb).mono ?_;rintro e w6 ⟨r, l6, er, rfl, hrw, hr6, her, hb6⟩;have HRW := hide hrw;have HL6 := hide (show RowB w6 base l6 r.lit from hr6.more (by omega));have HER := hide her;replace H2 := hide (H2.out.below hb6 H2.out.lt);replace HOWN := hide (HOWN.out.keptB hb6 (by omega));replace H12 := hide (H12.out.below hb6 H12.out.lt);replace HBase := hide (HBase.out.trans (hb6.mono HBase.out.size));replace HB := hide (HB.out.trans (hb6.mono (by omega)));have hz_hb6 := hb6.size;clear hb6 hrw hr6 her
    rcases HER.out with ⟨hp, he0⟩ | ⟨hp, he2⟩
    case inr =>
     subst he2;have HUN := hide (HBAD.out (by rw [HOFE.out, hp]; rfl));clear hp HER
     go_wp2_with (first
      | go_skip
      | (refine wpList_store_blk rfl 28 _ _ rfl g12 1 (capCells r l6) rfl rfl _ _ H12.out (by rw [ent_lenL HLX.out.1 HLX.out.2, cc_len l6 HRW.out.keyL HRW.out.fpL]; omega) (size_capL HRW.out.keyL HRW.out.fpL) (cap_ones (bs_one_ HL6.out.reads)) ?_; intro w7 hbs hgs hss; rw [ent_setRead HLX.out.1 r l6 HRW.out.keyL HRW.out.fpL] at hbs; replace H2 := hide (H2.out.grown hgs (by intro e; injection e; omega)); replace HOWN := hide (HOWN.out.past H12.out (Nat.zero_le _) (by kernel_rfl) (fun e => Nat.lt_irrefl _ (HOLT.out _ e)) hgs (by omega)); replace HL6 := hide (HL6.out.pastE H12.out (by kernel_rfl) hgs); replace HBase := hide (HBase.out.grown hgs HBase.out.size (by intro k hk; injection hk; omega)); replace HB := hide (HB.out.grown hgs (by omega) (by intro k hk; injection hk; omega)); replace H12 := hide hbs; have hz7 := hss;  clear hbs hgs hss))
     go_ret2
     exact ⟨.slice none 0 0, by rw [HUN.out.1]; rfl, by rw [HUN.out.2]; exact OwnEnts.nil_ _ (Nat.zero_le _), HW1.out.trans (HB.out.mono hbase)⟩
    subst he0;have HOF2 := hide (show OF = if q7 && decide (0 < d.length) then (parseF (kidF key a d)).map (fun z => (⟨a, r, z, true⟩ : EntD)) else some ⟨a, r, CapD.none_, false⟩ by rw [HOFE.out, hp]; rfl);clear hp HER HOFE;have HW1e := hide (show EntD.Wf ({ (⟨a, CapD.none_, CapD.none_, false⟩ : EntD) with read := r } : EntD) from ⟨HBY3.out.1, HRW.out, CapD.none_wf⟩);obtain ⟨A2, c2, hu2e, _, _, _⟩ := HU2.out.open_;obtain ⟨nd, HND⟩ : ∃ k, Hid (d.length = k) := ⟨_, hide rfl⟩;rw [HND.out] at hu2e;obtain ⟨qd, HQD⟩ : ∃ q, Hid (decide ((0 : Int) < (nd : Int)) = q) := ⟨_, hide rfl⟩;have HQD2 := hide (show decide (0 < d.length) = qd by rw [← HQD.out, HND.out, Bool.eq_iff_iff, decide_eq_true_eq, decide_eq_true_eq]; omega);rw [HQD2.out] at HOF2;subst hu2e;have HEQ7 := hide (show (kd == 7) = q7 from HQ7.out);have hrln := hrl;obtain ⟨no, HNO⟩ : ∃ k, Hid (out.length = k) := ⟨_, hide rfl⟩;clear HQD2
    rcases qd with _ | _
    case false =>
     have HYE := hide (show OF = some ({ (⟨a, CapD.none_, CapD.none_, false⟩ : EntD) with read := r } : EntD) by rw [HOF2.out]; cases q7 <;> rfl);have HYW := hide (show EntD.Wf ({ (⟨a, CapD.none_, CapD.none_, false⟩ : EntD) with read := r } : EntD) from HW1e.out);have HYL := hide (HYLIT.out _ HYE.out);have HNXT := hide (HGOOD.out _ HYE.out);have HSZE := hide (show (Tryz.prog.info? 50).map (·.size) = some (entC ({ (⟨a, CapD.none_, CapD.none_, false⟩ : EntD) with read := r } : EntD) l6 (.slice none 0 0)).length from size_entL HYW.out.lens.1 HYW.out.lens.2)
     go_wp2_with (first
      | go_skip
      | (refine wpList_store_blk rfl 28 _ _ rfl g12 1 (capCells r l6) rfl rfl _ _ H12.out (by rw [ent_lenL HLX.out.1 HLX.out.2, cc_len l6 HRW.out.keyL HRW.out.fpL]; omega) (size_capL HRW.out.keyL HRW.out.fpL) (cap_ones (bs_one_ HL6.out.reads)) ?_; intro w7 hbs hgs hss; rw [ent_setRead HLX.out.1 r l6 HRW.out.keyL HRW.out.fpL] at hbs; replace H2 := hide (H2.out.grown hgs (by intro e; injection e; omega)); replace HOWN := hide (HOWN.out.past H12.out (Nat.zero_le _) (by kernel_rfl) (fun e => Nat.lt_irrefl _ (HOLT.out _ e)) hgs (by omega)); replace HL6 := hide (HL6.out.pastE H12.out (by kernel_rfl) hgs); replace HBase := hide (HBase.out.grown hgs HBase.out.size (by intro k hk; injection hk; omega)); replace HB := hide (HB.out.grown hgs (by omega) (by intro k hk; injection hk; omega)); replace H12 := hide hbs; have hz7 := hss; have HR2w := hide ((HBase.out.cell (p := ⟨br, or_ + 2, none⟩) hbrb).trans HR2.out); clear hbs hgs hss)
      | (refine wpList_val_ rfl (exec_load_one _ _ rfl br (or_ + 2) rfl _ Tryz.underlying26 rfl _ HR2w.out) ?_)
      | (refine wpList_val_ rfl (exec_gtr_i64 _ _ _ _ rfl (nd : Int) 0 rfl rfl _ HQD.out) ?_)
      | (refine wpList_st_all 50 _ rfl rfl rfl H12.out _ Tryz.underlying50 rfl HSZE.out ?_)
      | (refine wpList_lit_ent rfl _ rfl (EntL.mk ({ (⟨a, CapD.none_, CapD.none_, false⟩ : EntD) with read := r } : EntD) l6 (.slice none 0 0)) HYW.out rfl ?_)
      | (at_builtin; refine wpList_append_entX rfl _ _ rfl base 0 u6 out rfl HOWN.out (by omega) (by have := HNO.out; omega) (EntL.mk ({ (⟨a, CapD.none_, CapD.none_, false⟩ : EntD) with read := r } : EntD) l6 (.slice none 0 0)) ⟨HYW.out, HL6.out.litB, (RowB.nil_ _ base).litB⟩ rfl ?_; intro v9 w9 ho9 hp9 hk9 hl9; have HOWN9 := hide ho9; have HLR9 := hide (HLR.out.below ((HBase.out.mono (by omega)).trans (hp9.mono (by omega))) (Nat.le_refl _)); replace HB := hide (HB.out.trans hp9); clear ho9 hp9 hk9 hl9))
     obtain ⟨A2', c2', e2, _, _, _⟩ := HLR9.out.open_;have HMEA := hide (show lenD v2 < nl by rw [e2]; show rr.length < nl; have := HNL.out; omega);clear e2
     go_roundw
     case measure => exact HMEA.out
     case rel => exact ⟨u4, u5, v9, v2, ⟨rr, HLR9.out, HRB.out, out ++ [({ (⟨a, CapD.none_, CapD.none_, false⟩ : EntD) with read := r } : EntD)], by have := HNO.out; have := HNL.out; rw [List.length_append, List.length_singleton]; omega, HOWN9.out, HNXT.out, (fun e he => by
      rcases List.mem_append.1 he with he | he
      · exact HOI.out e he
      · rw [List.mem_singleton.1 he]; exact ⟨Nat.le_trans HYL.out.1 (by decide), Nat.le_trans HYL.out.2 (by decide)⟩), HB.out⟩, rfl, rfl, rfl, rfl⟩
    rcases q7 with _ | _
    case false =>
     have HYE := hide (show OF = some ({ (⟨a, CapD.none_, CapD.none_, false⟩ : EntD) with read := r } : EntD) by rw [HOF2.out]; rfl);have HYW := hide (show EntD.Wf ({ (⟨a, CapD.none_, CapD.none_, false⟩ : EntD) with read := r } : EntD) from HW1e.out);have HYL := hide (HYLIT.out _ HYE.out);have HNXT := hide (HGOOD.out _ HYE.out);have HSZE := hide (show (Tryz.prog.info? 50).map (·.size) = some (entC ({ (⟨a, CapD.none_, CapD.none_, false⟩ : EntD) with read := r } : EntD) l6 (.slice none 0 0)).length from size_entL HYW.out.lens.1 HYW.out.lens.2)
     go_wp2_with (first
      | go_skip
      | (refine wpList_store_blk rfl 28 _ _ rfl g12 1 (capCells r l6) rfl rfl _ _ H12.out (by rw [ent_lenL HLX.out.1 HLX.out.2, cc_len l6 HRW.out.keyL HRW.out.fpL]; omega) (size_capL HRW.out.keyL HRW.out.fpL) (cap_ones (bs_one_ HL6.out.reads)) ?_; intro w7 hbs hgs hss; rw [ent_setRead HLX.out.1 r l6 HRW.out.keyL HRW.out.fpL] at hbs; replace H2 := hide (H2.out.grown hgs (by intro e; injection e; omega)); replace HOWN := hide (HOWN.out.past H12.out (Nat.zero_le _) (by kernel_rfl) (fun e => Nat.lt_irrefl _ (HOLT.out _ e)) hgs (by omega)); replace HL6 := hide (HL6.out.pastE H12.out (by kernel_rfl) hgs); replace HBase := hide (HBase.out.grown hgs HBase.out.size (by intro k hk; injection hk; omega)); replace HB := hide (HB.out.grown hgs (by omega) (by intro k hk; injection hk; omega)); replace H12 := hide hbs; have hz7 := hss; have HR2w := hide ((HBase.out.cell (p := ⟨br, or_ + 2, none⟩) hbrb).trans HR2.out); clear hbs hgs hss)
      | (refine wpList_val_ rfl (exec_load_one _ _ rfl br (or_ + 2) rfl _ Tryz.underlying26 rfl _ HR2w.out) ?_)
      | (refine wpList_val_ rfl (exec_gtr_i64 _ _ _ _ rfl (nd : Int) 0 rfl rfl _ HQD.out) ?_)
      | (refine wpList_cap_int _ rfl 0 rfl rfl H2.out kd HX0.out ?_)
      | (refine wpList_val_ rfl (exec_eql_i64 _ _ _ _ rfl kd 7 rfl rfl _ HEQ7.out) ?_)
      | (refine wpList_st_all 50 _ rfl rfl rfl H12.out _ Tryz.underlying50 rfl HSZE.out ?_)
      | (refine wpList_lit_ent rfl _ rfl (EntL.mk ({ (⟨a, CapD.none_, CapD.none_, false⟩ : EntD) with read := r } : EntD) l6 (.slice none 0 0)) HYW.out rfl ?_)
      | (at_builtin; refine wpList_append_entX rfl _ _ rfl base 0 u6 out rfl HOWN.out (by omega) (by have := HNO.out; omega) (EntL.mk ({ (⟨a, CapD.none_, CapD.none_, false⟩ : EntD) with read := r } : EntD) l6 (.slice none 0 0)) ⟨HYW.out, HL6.out.litB, (RowB.nil_ _ base).litB⟩ rfl ?_; intro v9 w9 ho9 hp9 hk9 hl9; have HOWN9 := hide ho9; have HLR9 := hide (HLR.out.below ((HBase.out.mono (by omega)).trans (hp9.mono (by omega))) (Nat.le_refl _)); replace HB := hide (HB.out.trans hp9); clear ho9 hp9 hk9 hl9))
     obtain ⟨A2', c2', e2, _, _, _⟩ := HLR9.out.open_;have HMEA := hide (show lenD v2 < nl by rw [e2]; show rr.length < nl; have := HNL.out; omega);clear e2
     go_roundw
     case measure => exact HMEA.out
     case rel => exact ⟨u4, u5, v9, v2, ⟨rr, HLR9.out, HRB.out, out ++ [({ (⟨a, CapD.none_, CapD.none_, false⟩ : EntD) with read := r } : EntD)], by have := HNO.out; have := HNL.out; rw [List.length_append, List.length_singleton]; omega, HOWN9.out, HNXT.out, (fun e he => by
      rcases List.mem_append.1 he with he | he
      · exact HOI.out e he
      · rw [List.mem_singleton.1 he]; exact ⟨Nat.le_trans HYL.out.1 (by decide), Nat.le_trans HYL.out.2 (by decide)⟩), HB.out⟩, rfl, rfl, rfl, rfl⟩
    have HOF3 := hide (show OF = (parseF (kidF key a d)).map (fun z => (⟨a, r, z, true⟩ : EntD)) by rw [HOF2.out]; rfl);have HKB := hide (kidF_bytes key a HBY3.out.2.2);have HKL := hide (show (kidF key a d).length ≤ 16000 by rw [kidF_len]; exact hld);obtain ⟨KD, HKDE⟩ : ∃ x, Hid (kidF key a d = x) := ⟨_, hide rfl⟩;rw [HKDE.out] at HOF3 HKB HKL;have HLY := hide (show LenE ({ (⟨a, CapD.none_, CapD.none_, false⟩ : EntD) with read := r } : EntD) ∧ LenW ({ (⟨a, CapD.none_, CapD.none_, false⟩ : EntD) with read := r } : EntD) from HW1e.out.lens);have HLY2 := hide (show LenE ({ ({ (⟨a, CapD.none_, CapD.none_, false⟩ : EntD) with read := r } : EntD) with has := true } : EntD) ∧ LenW ({ ({ (⟨a, CapD.none_, CapD.none_, false⟩ : EntD) with read := r } : EntD) with has := true } : EntD) from ⟨⟨HRW.out.keyL, HRW.out.fpL⟩, ⟨rfl, rfl⟩⟩);have HX0N := hide (fun (u v : Value) => show (entC ({ ({ (⟨a, CapD.none_, CapD.none_, false⟩ : EntD) with read := r } : EntD) with has := true } : EntD) u v)[0]? = some (.string (strOfNums a)) from ent_name)
    go_upto_region 19 with (first
     | go_skip
     | (refine wpList_store_blk rfl 28 _ _ rfl g12 1 (capCells r l6) rfl rfl _ _ H12.out (by rw [ent_lenL HLX.out.1 HLX.out.2, cc_len l6 HRW.out.keyL HRW.out.fpL]; omega) (size_capL HRW.out.keyL HRW.out.fpL) (cap_ones (bs_one_ HL6.out.reads)) ?_; intro w7 hbs hgs hss; rw [ent_setRead HLX.out.1 r l6 HRW.out.keyL HRW.out.fpL] at hbs; replace H2 := hide (H2.out.grown hgs (by intro e; injection e; omega)); replace HOWN := hide (HOWN.out.past H12.out (Nat.zero_le _) (by kernel_rfl) (fun e => Nat.lt_irrefl _ (HOLT.out _ e)) hgs (by omega)); replace HL6 := hide (HL6.out.pastE H12.out (by kernel_rfl) hgs); replace HBase := hide (HBase.out.grown hgs HBase.out.size (by intro k hk; injection hk; omega)); replace HB := hide (HB.out.grown hgs (by omega) (by intro k hk; injection hk; omega)); replace H12 := hide hbs; have hz7 := hss; have HR2w := hide ((HBase.out.cell (p := ⟨br, or_ + 2, none⟩) hbrb).trans HR2.out); clear hbs hgs hss)
     | (refine wpList_val_ rfl (exec_load_one _ _ rfl br (or_ + 2) rfl _ Tryz.underlying26 rfl _ HR2w.out) ?_)
     | (refine wpList_val_ rfl (exec_gtr_i64 _ _ _ _ rfl (nd : Int) 0 rfl rfl _ HQD.out) ?_)
     | (refine wpList_cap_int _ rfl 0 rfl rfl H2.out kd HX0.out ?_)
     | (refine wpList_val_ rfl (exec_eql_i64 _ _ _ _ rfl kd 7 rfl rfl _ HEQ7.out) ?_)
     | (refine wpList_st_put 4 _ _ rfl 107 rfl rfl H12.out (by rw [ent_lenL HLY.out.1 HLY.out.2]; omega) (.bool true) rfl rfl (by kernel_rfl) ?_; intro w8 hbs hgs hss; rw [ent_setHas HLY.out.1 HLY.out.2 true] at hbs; replace H2 := hide (H2.out.grown hgs (by intro e; injection e; omega)); replace HOWN := hide (HOWN.out.past H12.out (Nat.zero_le _) (by kernel_rfl) (fun e => Nat.lt_irrefl _ (HOLT.out _ e)) hgs (by omega)); replace HL6 := hide (HL6.out.pastE H12.out (by kernel_rfl) hgs); replace HBase := hide (HBase.out.grown hgs HBase.out.size (by intro k hk; injection hk; omega)); replace HB := hide (HB.out.grown hgs (by omega) (by intro k hk; injection hk; omega)); replace H12 := hide hbs; have hz8 := hss; clear hbs hgs hss))
    try simp only [s_]
    have hg2W : g2 < w8.heap.size := H2.out.lt;have hbrW : br < w8.heap.size := Nat.lt_of_lt_of_le hbrb HBase.out.size;have HCC := hide (show w8.rangeAt g2 0 (capCells c lit) from blk_range H2.out.blk 0 _ (fun j u hu => by rw [Nat.zero_add]; exact hu));have HSC := hide (size_capL (c := c) (l := lit) HC.out.keyL HC.out.fpL);have HR2x := hide ((HBase.out.cell (p := ⟨br, or_ + 2, none⟩) hbrb).trans HR2.out);have H12p := H12
    go_cut [13] from 28 to 92 (fun v13 wx => ∃ (z : CapD) (l9 : Value) (er2 : Int), v13 = .int .i64 er2 ∧ z.Wf ∧ RowB wx base l9 z.lit ∧ ((parseF KD = some z ∧ er2 = 0) ∨ (parseF KD = none ∧ er2 = 2)) ∧ Blk wx g12 50 (entC ({ ({ ({ (⟨a, CapD.none_, CapD.none_, false⟩ : EntD) with read := r } : EntD) with has := true } : EntD) with write := z } : EntD) l6 l9) ∧ w8.grownBy wx (some g12))
    case first =>
     refine wp_region_held_drew (S := fun w' => w8.grownBy w' (some g12)) (by kernel_rfl) (World.grownBy.drewG _ _) (fun hHeld => ?_);replace H12 := hide H12.out.drew;refine take_f 74 (i := 0) (v := .agg (capCells c lit).toArray) rfl (fun w' hS => exec_loadAll _ _ rfl g2 0 rfl _ _ (fun j u hu => (World.cell?_of_block (hS.block g2 hg2W (fun e => by injection e; omega))).trans (HCC.out j u hu)) Tryz.underlying28 rfl HSC.out) hHeld ?_
     try simp only [s_]
     refine take_f 75 (i := 1) (v := .pointer (some ⟨g12, 0, none⟩)) rfl (fun w' hS => exec_fieldG _ _ 0 0 rfl g12 0 rfl (by kernel_rfl) _ (by first | rfl | omega)) hHeld ?_
     try simp only [s_]
     refine take_f 77 (i := 3) (v := .slice (some ⟨br, or_, none⟩) 3 c3) rfl (fun w' hS => exec_move _ rfl (.slice (some ⟨br, or_, none⟩) 3 c3) rfl) hHeld ?_
     try simp only [s_]
     refine take_f 78 (i := 4) (v := .pointer (some ⟨br, or_ + 2, none⟩)) rfl (fun w' hS => exec_indexG _ _ _ rfl _ 3 c3 br or_ 1 2 rfl rfl rfl (by omega) (by kernel_rfl) _ (by omega)) hHeld ?_
     try simp only [s_]
     refine take_f 79 (i := 5) (v := .slice A2 nd c2) rfl (fun w' hS => exec_load_one _ _ rfl br (or_ + 2) rfl _ Tryz.underlying26 rfl _ ((World.cell?_of_block (hS.block br hbrW (fun e => by injection e; omega))).trans HR2x.out)) hHeld ?_
     try simp only [s_]
     refine wpAnyH_ready (rs := [2]) (by kernel_rfl) (by simp) (AllReadyH.cons rfl (fun K hK => ?_) AllReadyH.nil);rw [if_pos (by kernel_rfl)];refine wp_valueD 76 rfl (.string (strOfNums a)) (exec_load_one _ _ rfl g12 0 rfl _ Tryz.underlying9 rfl _ ((H12.out.cell _).trans (HX0N.out _ _))) ?_;refine hK.out _ _ hHeld (fun hHeld => ?_);clear hK K
     try simp only [s_]
     refine wpAnyH_ready (rs := [6]) (by kernel_rfl) (by simp) (AllReadyH.cons rfl (fun K hK => ?_) AllReadyH.nil);rw [if_pos (by kernel_rfl)]
     try go_simp
     refine (HKID.out _ a d _ HBY3.out.1 hla ((HU2.out.below (HBase.out.grown hHeld HBase.out.size (by intro k hk; injection hk; omega)) (Nat.le_refl _)).more (by have := hHeld.size; omega)) HBY3.out.2.2 hld).mono ?_;rintro e w53 ⟨v53, rfl, ho53, hb53⟩;rw [HKDE.out] at ho53;have HV53 := hide ho53.reads;replace H12 := hide (H12.out.below hb53 H12.out.lt);have HX := hide (World.grownBy.transG hHeld (Below.toGrown hb53 (some g12)));clear ho53 hb53;refine hK.out _ _ HX.out (fun hHeld => ?_);clear HX hK K
     try simp only [s_]
     refine wpAnyH_ready (rs := [7]) (by kernel_rfl) (by simp) (AllReadyH.cons rfl (fun K hK => ?_) AllReadyH.nil);rw [if_pos (by kernel_rfl)];refine wp_to_stringD 81 rfl _ rfl _ v53 KD rfl HV53.out ?_;refine hK.out _ _ hHeld (fun hHeld => ?_);clear hK K
     try simp only [s_]
     refine wpAnyH_ready (rs := [8]) (by kernel_rfl) (by simp) (AllReadyH.cons rfl (fun K hK => ?_) AllReadyH.nil);rw [if_pos (by kernel_rfl)]
     try go_simp
     refine (Parse_ur KD _ HKB.out HKL.out).mono ?_;rintro e w55 ⟨z, l9, er2, rfl, hxw, hr9, her2, hb55⟩;have HXW := hide hxw;have HL9 := hide (hr9.more (show base ≤ _ by have := hHeld.size; omega));have HER2 := hide her2;replace H12 := hide (H12.out.below hb55 H12.out.lt);have HX := hide (World.grownBy.transG hHeld (Below.toGrown hb55 (some g12)));clear hxw hr9 her2 hb55;refine hK.out _ _ HX.out (fun hHeld => ?_);clear HX hK K
     try simp only [s_]
     refine take_f 73 (i := 9) (v := .tuple #[capV z l9, .int .i64 er2]) rfl (fun w' hS => exec_move _ rfl (.tuple #[capV z l9, .int .i64 er2]) rfl) hHeld ?_
     try simp only [s_]
     refine take_f 83 (i := 10) (v := capV z l9) rfl (fun w' hS => exec_extractG _ rfl _ rfl _ rfl) hHeld ?_
     try simp only [s_]
     refine take_f 84 (i := 11) (v := .int .i64 er2) rfl (fun w' hS => exec_extractG _ rfl _ rfl _ rfl) hHeld ?_
     try simp only [s_]
     refine take_f 85 (i := 12) (v := .pointer (some ⟨g12, 54, none⟩)) rfl (fun w' hS => exec_fieldG _ _ 2 54 rfl g12 0 rfl (by kernel_rfl) _ (by first | rfl | omega)) hHeld ?_
     try simp only [s_]
     refine wpAnyH_ready (rs := [13]) (by kernel_rfl) (by simp) (AllReadyH.cons rfl (fun K hK => ?_) AllReadyH.nil);rw [if_pos (by kernel_rfl)];refine wp_store_blkD 28 _ _ rfl rfl g12 54 (capCells z l9) rfl rfl _ _ H12.out (by rw [ent_lenL HLY2.out.1 HLY2.out.2, cc_len l9 HXW.out.keyL HXW.out.fpL]; omega) (size_capL HXW.out.keyL HXW.out.fpL) (cap_ones (bs_one_ HL9.out.reads)) ?_;intro w58 hbs hgs hss;rw [ent_setWrite HLY2.out.1 HLY2.out.2 z l9 HXW.out.keyL HXW.out.fpL] at hbs;replace HL9 := hide (HL9.out.pastE H12.out (by kernel_rfl) hgs);replace H12 := hide hbs;have HX := hide (World.grownBy.transG hHeld hgs);clear hbs hgs hss;refine hK.out _ _ HX.out (fun hHeld => ?_);clear HX hK K
     try simp only [s_]
     refine take_f 13 (i := 14) (v := .int .i64 er2) rfl (fun w' hS => exec_assign _ rfl (.int .i64 er2) rfl) hHeld ?_
     try simp only [s_]
     refine wpAnyH_done (by kernel_rfl) ?_ _
     go_wp2_with fail
     go_meet
     exact ⟨z, l9, er2, rfl, HXW.out, HL9.out, HER2.out, H12.out, hHeld⟩
    obtain ⟨z, l9, er2, rfl, hxw, hl9, her2, hb12, hHeld⟩ := hcut;have HXWF := hide hxw;have HL9 := hide hl9;have H12n := hide hb12;replace H2 := hide (H2.out.grown hHeld (by intro e; injection e; omega));replace HOWN := hide (HOWN.out.past H12p.out (Nat.zero_le _) (by kernel_rfl) (fun e => Nat.lt_irrefl _ (HOLT.out _ e)) hHeld (by omega));replace HL6 := hide (HL6.out.pastE H12p.out (by kernel_rfl) hHeld);replace HBase := hide (HBase.out.grown hHeld HBase.out.size (by intro k hk; injection hk; omega));replace HB := hide (HB.out.grown hHeld (by omega) (by intro k hk; injection hk; omega));have hzc := hHeld.size;clear hxw hl9 hb12 hHeld H12 H12p;have H12 := H12n
    rcases her2 with ⟨hp, he0⟩ | ⟨hp, he2⟩
    case inr =>
     subst he2;have HUN := hide (HBAD.out (by rw [HOF3.out, hp]; rfl));clear hp
     go_wp2_with (first
      | go_skip)
     go_ret2
     exact ⟨.slice none 0 0, by rw [HUN.out.1]; rfl, by rw [HUN.out.2]; exact OwnEnts.nil_ _ (Nat.zero_le _), HW1.out.trans (HB.out.mono hbase)⟩
    subst he0;have HYE := hide (show OF = some ({ ({ ({ (⟨a, CapD.none_, CapD.none_, false⟩ : EntD) with read := r } : EntD) with has := true } : EntD) with write := z } : EntD) by rw [HOF3.out, hp]; rfl);have HYW := hide (show EntD.Wf ({ ({ ({ (⟨a, CapD.none_, CapD.none_, false⟩ : EntD) with read := r } : EntD) with has := true } : EntD) with write := z } : EntD) from ⟨HBY3.out.1, HRW.out, HXWF.out⟩);have HYL := hide (HYLIT.out _ HYE.out);have HNXT := hide (HGOOD.out _ HYE.out);have HSZE := hide (show (Tryz.prog.info? 50).map (·.size) = some (entC ({ ({ ({ (⟨a, CapD.none_, CapD.none_, false⟩ : EntD) with read := r } : EntD) with has := true } : EntD) with write := z } : EntD) l6 l9).length from size_entL HYW.out.lens.1 HYW.out.lens.2);clear hp
    go_wp2_with (first
     | go_skip
     | (refine wpList_st_all 50 _ rfl rfl rfl H12.out _ Tryz.underlying50 rfl HSZE.out ?_)
     | (refine wpList_lit_ent rfl _ rfl (EntL.mk ({ ({ ({ (⟨a, CapD.none_, CapD.none_, false⟩ : EntD) with read := r } : EntD) with has := true } : EntD) with write := z } : EntD) l6 l9) HYW.out rfl ?_)
     | (at_builtin; refine wpList_append_entX rfl _ _ rfl base 0 u6 out rfl HOWN.out (by omega) (by have := HNO.out; omega) (EntL.mk ({ ({ ({ (⟨a, CapD.none_, CapD.none_, false⟩ : EntD) with read := r } : EntD) with has := true } : EntD) with write := z } : EntD) l6 l9) ⟨HYW.out, HL6.out.litB, HL9.out.litB⟩ rfl ?_; intro v9 w9 ho9 hp9 hk9 hl9; have HOWN9 := hide ho9; have HLR9 := hide (HLR.out.below ((HBase.out.mono (by omega)).trans (hp9.mono (by omega))) (Nat.le_refl _)); replace HB := hide (HB.out.trans hp9); clear ho9 hp9 hk9 hl9))
    obtain ⟨A2', c2', e2, _, _, _⟩ := HLR9.out.open_;have HMEA := hide (show lenD v2 < nl by rw [e2]; show rr.length < nl; have := HNL.out; omega);clear e2
    go_roundw
    case measure => exact HMEA.out
    case rel => exact ⟨u4, u5, v9, v2, ⟨rr, HLR9.out, HRB.out, out ++ [({ ({ ({ (⟨a, CapD.none_, CapD.none_, false⟩ : EntD) with read := r } : EntD) with has := true } : EntD) with write := z } : EntD)], by have := HNO.out; have := HNL.out; rw [List.length_append, List.length_singleton]; omega, HOWN9.out, HNXT.out, (fun e he => by
     rcases List.mem_append.1 he with he | he
     · exact HOI.out e he
     · rw [List.mem_singleton.1 he]; exact ⟨Nat.le_trans HYL.out.1 (by decide), Nat.le_trans HYL.out.2 (by decide)⟩), HB.out⟩, rfl, rfl, rfl, rfl⟩
  · have hnl : nl = 0 := by omega
    have hlt' : ¬ (0 : Int) < (nl : Int) := by omega
    have HTS := hide (show TOT = some out by
     rw [← HEQ.out, List.eq_nil_of_length_eq_zero (HNL.out.trans hnl), unp_nil]
     simp)
    clear hnl
    go_wp2_with go_skip
    refine (drightR_any u6 out wr (HOWN.out.reads (by omega)) HOI.out (by omega)).mono ?_;rintro e w4 ⟨rfl, hb4⟩;replace H2 := hide (H2.out.below hb4 H2.out.lt);replace HOWN := hide (HOWN.out.keptB hb4 (by omega));replace HB := hide (HB.out.trans (hb4.mono (by omega)));have hz_hb4 := hb4.size;clear hb4;obtain ⟨rl, HRL⟩ : ∃ q, Hid (rightB out = q) := ⟨_, hide rfl⟩;rw [HRL.out]
    rcases rl with _ | _
    case false =>
     have HUN := hide (HNONE.out (by rw [HUT.out, HTS.out]; show (if rightB out = true then some out else none) = none; rw [HRL.out]; rfl))
     go_wp2_with go_skip
     go_ret2
     exact ⟨.slice none 0 0, by rw [HUN.out.1]; rfl, by rw [HUN.out.2]; exact OwnEnts.nil_ _ (Nat.zero_le _), HW1.out.trans (HB.out.mono hbase)⟩
    have HUN := hide (HSOME.out out (by rw [HUT.out, HTS.out]; show (if rightB out = true then some out else none) = some out; rw [HRL.out]; rfl))
    go_wp2_with go_skip
    go_ret2
    exact ⟨u6, by rw [HUN.out.1]; rfl, by rw [HUN.out.2]; exact HOWN.out.lower hbase (Nat.le_refl _) (Nat.zero_le _), HW1.out.trans (HB.out.mono hbase)⟩
end Go.Proofs.YthdjgebbjogmiaaGreatDoor
