/-
DirsSets holds: an entry more, one less, one found; which rows may be: as the document says. Conditions: none but the row's own.
-/
import Derived.Test.YthdjgebbjogmiaaDoorJoin21
import Derived.Test.YthdjgebbjogmiaaDoorEntRight
import Derived.Test.YthdjgebbjogmiaaDoorEntCut
import Derived.Test.YthdjgebbjogmiaaDoorJoin24
import Derived.Test.YthdjgebbjogmiaaDoorDirSet
import Derived.Test.YthdjgebbjogmiaaDoorDirSetR
import Derived.Test.YthdjgebbjogmiaaDoorJoin25
import Derived.Test.YthdjgebbjogmiaaDoorKeepEnts
import Derived.Test.YthdjgebbjogmiaaDoorJoin23
import Derived.Test.YthdjgebbjogmiaaDoorJoin10
import Derived.Test.YthdjgebbjogmiaaDoorCutIn
import Derived.Test.YthdjgebbjogmiaaDoorTied
set_option linter.unusedVariables false
set_option linter.unusedSimpArgs false
namespace Go.Proofs.YthdjgebbjogmiaaDoor.LawDirsSets
open Go Go.RowKit Go.ChangeShapes Go.WideShapes Go.ChangeAt
set_option linter.unusedVariables false
set_option linter.unusedSimpArgs false
set_option maxRecDepth 100000
theorem ents_keepB {w w' : World} {B g : Nat} {v : Value} {l : List EntD} {t t' : TypeId} {cs cs' : List Value} (h : EntsB w B v l) (hB : B ≤ w.heap.size) (hne : v.ownBlock ≠ some g) (hg : w.grownBy w' (some g)) (hk : Blk w g t cs) (hk' : Blk w' g t' cs') (hc : KeepB cs cs') : EntsB w' B v l := by
 obtain ⟨A, c, rfl, h1, h2, h3⟩ := h
 refine ⟨A, c, rfl, h1, h2, fun hp => ?_⟩
 obtain ⟨b, o, rfl, hb, hca⟩ := h3 hp
 have hbg : some b ≠ some g := fun e => hne (by injection e with e; subst e; rfl)
 refine ⟨b, o, rfl, hb, fun i hi => ?_⟩
 obtain ⟨lr, lw, ho, hr⟩ := hca i hi
 exact ⟨lr, lw, ho.keepB hB hg hk hk' hc, fun j u hu => (World.cell?_of_block (hg.block b (Nat.lt_of_lt_of_le hb hB) hbg)).trans (hr j u hu)⟩
theorem wp_lit_entD {o : Oper} {a : Act} {w : World} {K : Act → World → Prop} {Q : Exit → Act → World → Prop} (d : Nat) (hd : o.dst = some d) (x : Operand) (ho : o.op = .buildSlice 29 1 #[(0, x)]) (y : EntL) (hy : y.e.Wf) (hx : a.eval x = .agg y.cells.toArray)
 (h : ∀ g w', w.heap.size ≤ g → Blk w' g 45 y.cells → Below w.heap.size w w' → K (a.put (some d) (.slice (some ⟨g, 0, none⟩) 1 1)) w') : o.wp Tryd.prog a w K Q := by
 obtain ⟨i, z, hu, hi, hz, hsize, hby, hzs, _, _⟩ := el_ents
 refine wp_buildSlice 29 45 1 _ ho y.cells.toArray i z hu hi hz (by rw [hsize]; omega) (by rw [hsize]; omega) ?_ (by rw [hd]; exact h _ _ (Nat.le_refl _) (Blk.new w _ _) ((Below.refl _ _).alloc (Nat.le_refl _) _))
 have e : (#[(0, x)].map fun (p : Nat × Operand) => (p.1, a.eval p.2)).toList = ([Value.agg y.cells.toArray].zipIdx 0).map fun x => (x.2, x.1) := by simp [hx]
 rw [e, hsize]
 have := Great.fill_whole (s := 108) (by decide) [Value.agg y.cells.toArray] ((Array.range (1 * 108)).map (z.cells[· % z.cells.size]!)) (by intro u hu; rw [List.mem_singleton.1 hu]; show y.cells.toArray.size = 108; rw [List.size_toArray, EntL.len hy]) (by simp)
 rw [this]
 congr 2
 show ([Value.agg y.cells.toArray].flatMap fun v => v.cells.toList) = y.cells
 simp [Value.cells]
set_option maxHeartbeats 32000000 in
theorem walk (w : World) (ht : Tab w w.heap.size) (v : Value) (l : List EntD) (hv : EntsB w w.heap.size v l) (hin : ∀ e ∈ l, e.In) (e : EntD) (le lf : Value) (hei : e.In) (he : EntOk w w.heap.size e le lf) (right : Bool) (i : Int) (hi : In64 i) :
 Calls Tryd.prog 5 #[v, .agg (entC e le lf).toArray, .bool right, .int .i64 i] w fun e w' => e = .returned (.bool true) ∧ Below w.heap.size w w' := by
 have HT := hide ht
 have HV := hide hv
 have HE := hide he
 have HIN := hide (cutEnts_in hin)
 have HEI := hide hei
 have HWF := hide (fun (e : EntD) (he : e ∈ l) => (hin e he).wf)
 obtain ⟨g5, HG5⟩ : ∃ k, Hid (w.heap.size = k) := ⟨_, hide rfl⟩
 have hg5 : g5 ≤ w.heap.size ∧ w.heap.size ≤ g5 := by have := HG5.out; omega
 clear hv he hin hei ht
 go_enter Tryd.func5, Tryd.ntmps5
 go_upto_if 24 with (first
  | (refine wpList_st_box _ rfl (entC e le lf) rfl rfl ?_; intro w1 hb1 hw1 hs1; rw [HG5.out] at hb1; try rw [HG5.out]; have H5 := hide hb1; have HB := hide hw1; have hz1 := hw1.size; clear hb1 hw1 hs1)
  | (go_at_call 12; refine (entcut_any v l w1 ((HV.out.below HB.out (Nat.le_refl _)).more HB.out.size)).mono ?_; rintro e w2 ⟨v2, rfl, ho2, hb2⟩; have HL2 := hide (ho2.reads hb2.size); have HOF := hide (fun (k : Nat) (hk : v2.ownBlock = some k) => show g5 < k from Nat.lt_of_lt_of_le H5.out.lt (ho2.base_ k hk)); replace H5 := hide (H5.out.below hb2 H5.out.lt); replace HB := hide (HB.out.trans (hb2.mono HB.out.size)); have hz2 := hb2.size; clear ho2 hb2))
 go_cut [0, 9] from 25 to 57 (fun v0 v9 wx => ∃ (l2 : List EntD) (e' : EntD) (x y : Value), EntsB wx wx.heap.size v0 l2 ∧ (∀ k, v0.ownBlock = some k → g5 < k) ∧ (l2 = cutEnts l ∨ l2 = rightsL (cutEnts l)) ∧ Blk wx g5 45 (entC e' x y) ∧ EntOk wx wx.heap.size e' x y ∧ Below w.heap.size w wx)
 case first =>
  rcases right with _ | _
  case false =>
   go_wp2_with go_skip
   go_meet
   exact ⟨cutEnts l, e, le, lf, HL2.out, HOF.out, .inl rfl, H5.out, (HE.out.below HB.out (Nat.le_refl _)).more HB.out.size, HB.out⟩
  go_wp2_with fail
  refine (entright_0 v2 (cutEnts l) w2 HL2.out HIN.out).mono ?_
  rintro e w3 ⟨v3, rfl, ho3, hb3⟩
  have HO3 := hide ho3
  have HO3F := hide (fun (k : Nat) (hk : v3.ownBlock = some k) => show g5 < k from Nat.lt_of_lt_of_le H5.out.lt (ho3.base_ k hk))
  clear ho3
  replace H5 := hide (H5.out.below hb3 H5.out.lt)
  replace HB := hide (HB.out.trans (hb3.mono HB.out.size))
  have hz3 := hb3.size
  clear hb3
  have HSZ := hide (show (Tryd.prog.info? 45).map (·.size) = some (entC e le lf).length by rw [ent_len HE.out]; exact size_ent)
  have HOE := hide (HE.out.below HB.out (Nat.le_refl _))
  clear HL2 HOF
  obtain ⟨g28, HG28⟩ : ∃ k, Hid (w3.heap.size = k) := ⟨_, hide rfl⟩
  have hg28 : g28 ≤ w3.heap.size ∧ w3.heap.size ≤ g28 := by have := HG28.out; omega
  go_wp2_with (first
   | go_skip
   | (refine wpList_st_all 45 _ rfl rfl rfl H5.out _ Tryd.underlying45 rfl HSZ.out ?_)
   | (refine wpList_lit_entW rfl _ rfl (EntL.mk e le lf) HOE.out.toWf rfl ?_; intro w4 hba hwa hsa; rw [HG28.out] at hba; try rw [HG28.out]; have H28 := hide hba; replace HOE := hide (HOE.out.below hwa HB.out.size); replace HO3 := hide (HO3.out.keptB hwa (by omega)); replace H5 := hide (H5.out.below hwa H5.out.lt); replace HB := hide (HB.out.trans (hwa.mono HB.out.size)); have hz4 := hwa.size; clear hba hwa hsa))
  have HOEi := hide (show ∀ x ∈ [e], x.In from fun x hx => by rw [List.mem_singleton.1 hx]; exact HEI.out)
  have hl28 := H28.out.lt
  refine (entright_0 (.slice (some ⟨g28, 0, none⟩) 1 1) [e] w4 (ents_one H28.out hl28 (HOE.out.more HB.out.size)) HOEi.out).mono ?_
  rintro e w5 ⟨v5, rfl, ho5, hb5⟩
  replace HOE := hide (HOE.out.below hb5 HB.out.size)
  replace HO3 := hide (HO3.out.keptB hb5 (by omega))
  replace H5 := hide (H5.out.below hb5 H5.out.lt)
  replace HB := hide (HB.out.trans (hb5.mono HB.out.size))
  have hz5 := hb5.size
  clear hb5
  rw [show rightsL [e] = [rightE 0 e] from rfl] at ho5
  obtain ⟨b5, o5, c5, x5, y5, rfl, hc5, hb5b, hrg5, hu5⟩ := ho5.single
  have HU5 := hide hu5
  have HRG5 := hide hrg5
  have HSZ5 := hide (show (Tryd.prog.info? 45).map (·.size) = some (entC (rightE 0 e) x5 y5).length by rw [ent_len hu5.ok]; exact size_ent)
  have HLN5 := hide (show (entC e le lf).length = (entC (rightE 0 e) x5 y5).length by rw [ent_len hu5.ok, ent_len HE.out])
  have HON5 := hide (ent_ones hu5.ok)
  clear ho5 hrg5 hu5
  obtain ⟨q3, e3⟩ : ∃ q, (i.tmod 3 != 0) = q := ⟨_, rfl⟩
  obtain ⟨q2, e2⟩ : ∃ q, (i.tmod 2 == 0) = q := ⟨_, rfl⟩
  obtain ⟨A3, c3, e3v⟩ : ∃ A k, v3 = .slice A (rightsL (cutEnts l)).length k := HO3.out.shape
  obtain ⟨n3, HN3⟩ : ∃ k, Hid ((rightsL (cutEnts l)).length = k) := ⟨_, hide rfl⟩
  have hn3 : n3 ≤ 6 := by have := HN3.out; unfold rightsL at this; rw [rightsN_len] at this; omega
  rw [HN3.out] at e3v
  subst e3v
  rcases q3 with _ | _
  case false =>
   by_cases h0 : 0 < n3
   case neg =>
    have i0 : decide ((0 : Int) < (n3 : Int)) = false := decide_eq_false (by omega)
    go_wp2_with (first
     | go_skip)
    go_meet
    exact ⟨rightsL (cutEnts l), e, le, lf, HO3.out.reads (by omega), HO3F.out, .inr rfl, H5.out, (HOE.out.more HB.out.size), HB.out⟩
   have i0 : decide ((0 : Int) < (n3 : Int)) = true := decide_eq_true (by omega)
   rcases q2 with _ | _
   case false =>
    go_wp2_with (first
     | go_skip)
    go_meet
    exact ⟨rightsL (cutEnts l), e, le, lf, HO3.out.reads (by omega), HO3F.out, .inr rfl, H5.out, (HOE.out.more HB.out.size), HB.out⟩
   have hwk := within_lt i (n3 : Int) (by omega)
   obtain ⟨k, HK⟩ : ∃ k : Nat, Hid (within i (n3 : Int) = (k : Int)) := ⟨(within i (n3 : Int)).toNat, hide (by omega)⟩
   have hk : k < n3 := by have := HK.out; omega
   go_wp2_with (first
    | go_skip)
   refine (within_any i (n3 : Int) w5 hi.1 hi.2 (by omega)).mono ?_
   rintro e w7 ⟨rfl, rfl⟩
   rw [HK.out]
   have HOK1 := hide (show EntOk _ _ e le lf from (HOE.out.more HB.out.size))
   obtain ⟨A0, c0, e0v, h01, h02, h03⟩ := HO3.out.reads (by omega)
   obtain ⟨b3, o3, e03, hb3b, h3c⟩ := h03 (by have := HN3.out; omega)
   have e0A : A3 = A0 := by injection e0v
   obtain rfl : A3 = some ⟨b3, o3, none⟩ := e0A.trans e03
   clear e0v e0A e03
   obtain ⟨x3, y3, hok3, hrg3⟩ := h3c k (by have := HN3.out; omega)
   obtain ⟨z, HZ⟩ : ∃ z, Hid ((rightsL (cutEnts l))[k]'(by have := HN3.out; omega) = z) := ⟨_, hide rfl⟩
   rw [HZ.out] at hok3 hrg3
   have HNB3 := hide hok3.nameB
   have HC3 := hide (show w5.cell? ⟨b3, o3 + k * 108, none⟩ = some (.string (strOfNums z.name)) by have := hrg3 0 _ ent_name; rwa [Nat.add_zero] at this)
   clear h01 h02 h03 h3c hok3 hrg3
   go_wp2_with (first
    | go_skip
    | (refine wpList_val_ rfl (exec_load_one _ _ rfl b3 (o3 + k * 108) rfl _ Tryd.underlying9 rfl _ HC3.out) ?_)
    | (refine wpList_st_put 9 _ _ rfl 0 rfl rfl H5.out (by rw [ent_len HOK1.out]; omega) (.string (strOfNums z.name)) rfl rfl (by kernel_rfl) ?_; intro w8 hbs hgs hss; replace HOK1 := hide (HOK1.out.keepB (by omega) hgs H5.out hbs (ent_keepName z.name)); replace HO3 := hide (HO3.out.past H5.out (Nat.zero_le _) (by kernel_rfl) (fun e => Nat.lt_irrefl _ (HO3F.out _ e)) hgs (by omega)); replace HB := hide (HB.out.grown hgs HB.out.size (by intro k hk; injection hk; omega)); replace H5 := hide (show Blk w8 g5 45 (entC ({ e with name := z.name } : EntD) le lf) from hbs); have hz8 := hss; clear hbs hgs hss))
   go_meet
   exact ⟨rightsL (cutEnts l), ({ e with name := z.name } : EntD), le, lf, HO3.out.reads (by omega), HO3F.out, .inr rfl, H5.out, (HOK1.out.more (by omega)).named HNB3.out, HB.out⟩
  by_cases h0 : 0 < n3
  case neg =>
   have i0 : decide ((0 : Int) < (n3 : Int)) = false := decide_eq_false (by omega)
   go_wp2_with (first
    | go_skip
    | (refine wpList_val_ rfl (exec_loadAll 45 _ rfl b5 o5 rfl _ (entC (rightE 0 e) x5 y5) HRG5.out Tryd.underlying45 rfl HSZ5.out) ?_)
    | (refine wpList_st_putAll _ _ _ rfl rfl rfl H5.out (entC (rightE 0 e) x5 y5) rfl HLN5.out HSZ5.out HON5.out ?_; intro w6 hbs hgs hss; replace HU5 := hide (HU5.out.past H5.out hgs); replace HO3 := hide (HO3.out.past H5.out (Nat.zero_le _) (by kernel_rfl) (fun e => Nat.lt_irrefl _ (HO3F.out _ e)) hgs (by omega)); replace HB := hide (HB.out.grown hgs HB.out.size (by intro k hk; injection hk; omega)); replace H5 := hide hbs; have hz6 := hss; clear hbs hgs hss))
   go_meet
   exact ⟨rightsL (cutEnts l), (rightE 0 e), x5, y5, HO3.out.reads (by omega), HO3F.out, .inr rfl, H5.out, HU5.out.ok, HB.out⟩
  have i0 : decide ((0 : Int) < (n3 : Int)) = true := decide_eq_true (by omega)
  rcases q2 with _ | _
  case false =>
   go_wp2_with (first
    | go_skip
    | (refine wpList_val_ rfl (exec_loadAll 45 _ rfl b5 o5 rfl _ (entC (rightE 0 e) x5 y5) HRG5.out Tryd.underlying45 rfl HSZ5.out) ?_)
    | (refine wpList_st_putAll _ _ _ rfl rfl rfl H5.out (entC (rightE 0 e) x5 y5) rfl HLN5.out HSZ5.out HON5.out ?_; intro w6 hbs hgs hss; replace HU5 := hide (HU5.out.past H5.out hgs); replace HO3 := hide (HO3.out.past H5.out (Nat.zero_le _) (by kernel_rfl) (fun e => Nat.lt_irrefl _ (HO3F.out _ e)) hgs (by omega)); replace HB := hide (HB.out.grown hgs HB.out.size (by intro k hk; injection hk; omega)); replace H5 := hide hbs; have hz6 := hss; clear hbs hgs hss))
   go_meet
   exact ⟨rightsL (cutEnts l), (rightE 0 e), x5, y5, HO3.out.reads (by omega), HO3F.out, .inr rfl, H5.out, HU5.out.ok, HB.out⟩
  have hwk := within_lt i (n3 : Int) (by omega)
  obtain ⟨k, HK⟩ : ∃ k : Nat, Hid (within i (n3 : Int) = (k : Int)) := ⟨(within i (n3 : Int)).toNat, hide (by omega)⟩
  have hk : k < n3 := by have := HK.out; omega
  go_wp2_with (first
   | go_skip
   | (refine wpList_val_ rfl (exec_loadAll 45 _ rfl b5 o5 rfl _ (entC (rightE 0 e) x5 y5) HRG5.out Tryd.underlying45 rfl HSZ5.out) ?_)
   | (refine wpList_st_putAll _ _ _ rfl rfl rfl H5.out (entC (rightE 0 e) x5 y5) rfl HLN5.out HSZ5.out HON5.out ?_; intro w6 hbs hgs hss; replace HU5 := hide (HU5.out.past H5.out hgs); replace HO3 := hide (HO3.out.past H5.out (Nat.zero_le _) (by kernel_rfl) (fun e => Nat.lt_irrefl _ (HO3F.out _ e)) hgs (by omega)); replace HB := hide (HB.out.grown hgs HB.out.size (by intro k hk; injection hk; omega)); replace H5 := hide hbs; have hz6 := hss; clear hbs hgs hss))
  refine (within_any i (n3 : Int) w6 hi.1 hi.2 (by omega)).mono ?_
  rintro e w7 ⟨rfl, rfl⟩
  rw [HK.out]
  have HOK1 := hide (show EntOk _ _ (rightE 0 e) x5 y5 from HU5.out.ok)
  obtain ⟨A0, c0, e0v, h01, h02, h03⟩ := HO3.out.reads (by omega)
  obtain ⟨b3, o3, e03, hb3b, h3c⟩ := h03 (by have := HN3.out; omega)
  have e0A : A3 = A0 := by injection e0v
  obtain rfl : A3 = some ⟨b3, o3, none⟩ := e0A.trans e03
  clear e0v e0A e03
  obtain ⟨x3, y3, hok3, hrg3⟩ := h3c k (by have := HN3.out; omega)
  obtain ⟨z, HZ⟩ : ∃ z, Hid ((rightsL (cutEnts l))[k]'(by have := HN3.out; omega) = z) := ⟨_, hide rfl⟩
  rw [HZ.out] at hok3 hrg3
  have HNB3 := hide hok3.nameB
  have HC3 := hide (show w6.cell? ⟨b3, o3 + k * 108, none⟩ = some (.string (strOfNums z.name)) by have := hrg3 0 _ ent_name; rwa [Nat.add_zero] at this)
  clear h01 h02 h03 h3c hok3 hrg3
  go_wp2_with (first
   | go_skip
   | (refine wpList_val_ rfl (exec_load_one _ _ rfl b3 (o3 + k * 108) rfl _ Tryd.underlying9 rfl _ HC3.out) ?_)
   | (refine wpList_st_put 9 _ _ rfl 0 rfl rfl H5.out (by rw [ent_len HOK1.out]; omega) (.string (strOfNums z.name)) rfl rfl (by kernel_rfl) ?_; intro w8 hbs hgs hss; replace HOK1 := hide (HOK1.out.keepB (by omega) hgs H5.out hbs (ent_keepName z.name)); replace HO3 := hide (HO3.out.past H5.out (Nat.zero_le _) (by kernel_rfl) (fun e => Nat.lt_irrefl _ (HO3F.out _ e)) hgs (by omega)); replace HB := hide (HB.out.grown hgs HB.out.size (by intro k hk; injection hk; omega)); replace H5 := hide (show Blk w8 g5 45 (entC ({ (rightE 0 e) with name := z.name } : EntD) x5 y5) from hbs); have hz8 := hss; clear hbs hgs hss))
  go_meet
  exact ⟨rightsL (cutEnts l), ({ (rightE 0 e) with name := z.name } : EntD), x5, y5, HO3.out.reads (by omega), HO3F.out, .inr rfl, H5.out, (HOK1.out.more (by omega)).named HNB3.out, HB.out⟩
 obtain ⟨l2, e1, x1, y1, hl2, hoff, hor, hb5, hok, hb⟩ := hcut
 have HOFF := hide hoff
 clear hoff
 have H5 := hide hb5
 have HOK := hide hok
 have HB := hide hb
 have hz5 := hb.size
 have hL5 := hb5.lt
 have HLT := hide (show ∀ x ∈ l2, x.read.lit.length ≤ 1000000 ∧ x.write.lit.length ≤ 1000000 by rcases hor with rfl | rfl; exact cutEnts_lit l; exact rights_lit)
 have HLN := hide (show l2.length ≤ 18 by rcases hor with rfl | rfl; exact cutEnts_len l; unfold rightsL; rw [rightsN_len]; omega)
 have HL2e := hide hl2
 clear hl2 hor hb5 hok hb
 obtain ⟨B0, HBd0⟩ : ∃ k, Hid (wc.heap.size = k) := ⟨_, hide rfl⟩
 have hBd0 : B0 ≤ wc.heap.size ∧ wc.heap.size ≤ B0 := by have := HBd0.out; omega
 have HL := hide (HL2e.out.more hBd0.2)
 clear HL2e
 have HSZ := hide (show (Tryd.prog.info? 45).map (·.size) = some (entC e1 x1 y1).length by rw [ent_len HOK.out]; exact size_ent)
 obtain ⟨g59, HG59⟩ : ∃ k, Hid (wc.heap.size = k) := ⟨_, hide rfl⟩
 have hg59 : g59 ≤ wc.heap.size ∧ wc.heap.size ≤ g59 := by have := HG59.out; omega
 go_wp2_with (first
  | go_skip
  | (refine wpList_st_all 45 _ rfl rfl rfl H5.out _ Tryd.underlying45 rfl HSZ.out ?_)
  | (refine wpList_lit_entW rfl _ rfl (EntL.mk e1 x1 y1) HOK.out.toWf rfl ?_; intro w4 hba hwa hsa; rw [HG59.out] at hba; try rw [HG59.out]; have H59 := hide hba; replace HOK := hide (HOK.out.below hwa (Nat.le_refl _)); replace HL := hide (HL.out.below hwa (by omega)); replace H5 := hide (H5.out.below hwa H5.out.lt); replace HB := hide (HB.out.trans (hwa.mono HB.out.size)); have hz4 := hwa.size; clear hba hwa hsa))
 have hl59 := H59.out.lt
 refine (entcut_any (.slice (some ⟨g59, 0, none⟩) 1 1) [e1] w4 (ents_one H59.out hl59 (HOK.out.more hz4))).mono ?_
 rintro e w6 ⟨v6, rfl, ho6, hb6⟩
 have HO6 := hide (ho6.reads hb6.size)
 clear ho6
 replace HL := hide (HL.out.below hb6 (by omega))
 replace H5 := hide (H5.out.below hb6 H5.out.lt)
 replace HB := hide (HB.out.trans (hb6.mono HB.out.size))
 have hz6 := hb6.size
 clear hb6
 rw [show cutEnts [e1] = [cutE e1] from rfl] at HO6
 obtain ⟨A6, c6, rfl, h61, h62, h63⟩ := HO6.out
 obtain ⟨b6, o6, rfl, hb6b, h6c⟩ := h63 (by simp)
 obtain ⟨x2, y2, hok6, hrg6⟩ := h6c 0 (by simp)
 replace hok6 : EntOk w6 w6.heap.size (cutE e1) x2 y2 := hok6
 replace hrg6 : w6.rangeAt b6 (o6 + 0 * 108) (entC (cutE e1) x2 y2) := hrg6
 have HOK2 := hide (show EntOk w6 w6.heap.size (cutE e1) x2 y2 from hok6)
 have HRG6 := hide (show w6.rangeAt b6 o6 (entC (cutE e1) x2 y2) from fun j u hu => by have := hrg6 j u hu; rwa [show o6 + 0 * 108 + j = o6 + j by omega] at this)
 have HSZ2 := hide (show (Tryd.prog.info? 45).map (·.size) = some (entC (cutE e1) x2 y2).length by rw [ent_len hok6]; exact size_ent)
 have HLN6 := hide (show (entC e1 x1 y1).length = (entC (cutE e1) x2 y2).length by rw [ent_len hok6, ent_len HOK.out])
 have HON6 := hide (ent_ones hok6)
 have HKB := hide (show KeepB (entC e1 x1 y1) (entC (cutE e1) x2 y2) from ent_keepCut HOK.out.toWf.lens.1 HOK.out.toWf.lens.2 (bs_not8 HOK.out.r1) (bs_not8 HOK.out.w1))
 have hc6 : 1 ≤ c6 := h61
 clear HO6 h61 h62 h63 h6c hok6 hrg6 HSZ
 obtain ⟨e2, HE2⟩ : ∃ x, Hid (cutE e1 = x) := ⟨_, hide rfl⟩
 have HE2L := hide (show e2.read.lit.length ≤ 1000000 ∧ e2.write.lit.length ≤ 1000000 by rw [← HE2.out]; have := cutE_lit e1; omega)
 rw [HE2.out] at HOK2 HRG6 HSZ2 HLN6 HON6 HKB
 go_wp2_with (first
  | go_skip
  | (refine wpList_val_ rfl (exec_loadAll 45 _ rfl b6 o6 rfl _ (entC e2 x2 y2) HRG6.out Tryd.underlying45 rfl HSZ2.out) ?_)
  | (refine wpList_st_putAll _ _ _ rfl rfl rfl H5.out (entC e2 x2 y2) rfl HLN6.out HSZ2.out HON6.out ?_; intro w7 hbs hgs hss; replace HOK2 := hide (HOK2.out.keepB (Nat.le_refl _) hgs H5.out hbs HKB.out); replace HL := hide (ents_keepB HL.out (by omega) (fun e => Nat.lt_irrefl _ (HOFF.out _ e)) hgs H5.out hbs HKB.out); replace HB := hide (HB.out.grown hgs HB.out.size (by intro k hk; injection hk; omega)); replace H5 := hide hbs; have hz7 := hss; clear hbs hgs hss)
  | (refine wpList_st_all 45 _ rfl rfl rfl H5.out _ Tryd.underlying45 rfl HSZ2.out ?_))
 obtain ⟨B7, HBd7⟩ : ∃ k, Hid (w7.heap.size = k) := ⟨_, hide rfl⟩
 have hBd7 : B7 ≤ w7.heap.size ∧ w7.heap.size ≤ B7 := by have := HBd7.out; omega
 have HO := hide (show EntOk w7 B7 e2 x2 y2 from HOK2.out.more (by omega))
 have HSET := hide (fun (_ : Nat) => (⟨rfl, rfl⟩ : setE l2 e2 = setE l2 e2 ∧ setF l2 e2 = setF l2 e2))
 obtain ⟨SE, HSE⟩ : ∃ x, Hid (setE l2 e2 = x) := ⟨_, hide rfl⟩
 obtain ⟨SF, HSF⟩ : ∃ x, Hid (setF l2 e2 = x) := ⟨_, hide rfl⟩
 clear HOK HOK2 HRG6 HLN6 HON6 HKB H59 HSET
 refine (dset_any u0 l2 e2 x2 y2 w7 (HL.out.more (by omega)) (HO.out.more (by omega)) HLT.out HE2L.out (by have := HLN.out; omega) ((HT.out.below HB.out (Nat.le_refl _)).more HB.out.size)).mono ?_
 rintro e w10 ⟨v10, rfl, ho10, hb10⟩
 have HO10 := hide (ho10.reads hb10.size)
 clear ho10
 rw [HSE.out]
 rw [HSF.out] at HO10
 replace HL := hide (HL.out.below hb10 (by omega))
 replace HO := hide (HO.out.below hb10 (by omega))
 replace H5 := hide (H5.out.below hb10 H5.out.lt)
 replace HB := hide (HB.out.trans (hb10.mono HB.out.size))
 have hz10 := hb10.size
 clear hb10
 obtain ⟨B10, HBd10⟩ : ∃ k, Hid (w10.heap.size = k) := ⟨_, hide rfl⟩
 have hBd10 : B10 ≤ w10.heap.size ∧ w10.heap.size ≤ B10 := by have := HBd10.out; omega
 have HA := hide (show EntsB w10 B10 v10 SF from (HO10.out).more hBd10.2)
 clear HO10
 go_wp2_with (first
  | go_skip
  | (refine wpList_st_all 45 _ rfl rfl rfl H5.out _ Tryd.underlying45 rfl HSZ2.out ?_))
 refine (dsetR_any u0 l2 e2 x2 y2 w10 (HL.out.more (by omega)) (HO.out.more (by omega)) HLT.out HE2L.out (by have := HLN.out; omega)).mono ?_
 rintro e w11 ⟨v11, rfl, ho11, hb11⟩
 have HO11 := hide (ho11.reads hb11.size)
 clear ho11
 rw [HSE.out]
 rw [HSF.out] at HO11
 replace HL := hide (HL.out.below hb11 (by omega))
 replace HO := hide (HO.out.below hb11 (by omega))
 replace HA := hide (HA.out.below hb11 (by omega))
 replace H5 := hide (H5.out.below hb11 H5.out.lt)
 replace HB := hide (HB.out.trans (hb11.mono HB.out.size))
 have hz11 := hb11.size
 clear hb11
 obtain ⟨B11, HBd11⟩ : ∃ k, Hid (w11.heap.size = k) := ⟨_, hide rfl⟩
 have hBd11 : B11 ≤ w11.heap.size ∧ w11.heap.size ≤ B11 := by have := HBd11.out; omega
 have HBb := hide (show EntsB w11 B11 v11 SF from (HO11.out).more hBd11.2)
 clear HO11
 obtain ⟨R, HR⟩ : ∃ x, Hid (rightB l2 = x) := ⟨_, hide rfl⟩
 go_wp2_with (first
  | go_skip)
 refine (dright_any u0 l2 w11 (HL.out.more (by omega)) HLT.out (by have := HLN.out; omega) ((HT.out.below HB.out (Nat.le_refl _)).more HB.out.size)).mono ?_
 rintro e w12 ⟨rfl, hb12⟩
 rw [HR.out]
 replace HL := hide (HL.out.below hb12 (by omega))
 replace HO := hide (HO.out.below hb12 (by omega))
 replace HA := hide (HA.out.below hb12 (by omega))
 replace HBb := hide (HBb.out.below hb12 (by omega))
 replace H5 := hide (H5.out.below hb12 H5.out.lt)
 replace HB := hide (HB.out.trans (hb12.mono HB.out.size))
 have hz12 := hb12.size
 clear hb12
 go_wp2_with (first
  | go_skip)
 refine (drightR_any u0 l2 w12 (HL.out.more (by omega)) HLT.out (by have := HLN.out; omega)).mono ?_
 rintro e w13 ⟨rfl, hb13⟩
 rw [HR.out]
 replace HL := hide (HL.out.below hb13 (by omega))
 replace HO := hide (HO.out.below hb13 (by omega))
 replace HA := hide (HA.out.below hb13 (by omega))
 replace HBb := hide (HBb.out.below hb13 (by omega))
 replace H5 := hide (H5.out.below hb13 H5.out.lt)
 replace HB := hide (HB.out.trans (hb13.mono HB.out.size))
 have hz13 := hb13.size
 clear hb13
 have HRR := hide (show (R != R) = false by cases R <;> rfl)
 have HSS := hide (show (SE != SE) = false by simp)
 go_wp2_with (first
  | go_skip
  | (refine wpList_val_ rfl (exec_neqB2 _ _ _ rfl R R rfl rfl _ HRR.out) ?_)
  | (refine wpList_val_ rfl (exec_neq_i64 _ _ _ _ rfl SE SE rfl rfl _ HSS.out) ?_))
 refine (keep_ents v10 v11 SF SF w13 w13.heap.size (Nat.le_refl _) (HA.out.more (by omega)) (HBb.out.more (by omega))).mono ?_
 rintro e w14 ⟨rfl, hb14⟩
 rw [(entsEq_iff SF SF).2 rfl]
 replace HL := hide (HL.out.below hb14 (by omega))
 replace HO := hide (HO.out.below hb14 (by omega))
 replace HA := hide (HA.out.below hb14 (by omega))
 replace HBb := hide (HBb.out.below hb14 (by omega))
 replace H5 := hide (H5.out.below hb14 H5.out.lt)
 replace HB := hide (HB.out.trans (hb14.mono HB.out.size))
 have hz14 := hb14.size
 clear hb14
 clear HA HBb HSE HSF HRR HSS
 obtain ⟨nm, HNM⟩ : ∃ x, Hid (e2.name = x) := ⟨_, hide rfl⟩
 have HNMB := hide (show Bytes nm by rw [← HNM.out]; exact HO.out.nameB)
 have HN0 := hide (show (entC e2 x2 y2)[0]? = some (.string (strOfNums nm)) by rw [← HNM.out]; exact ent_name)
 obtain ⟨RE, HRE⟩ : ∃ x, Hid (remB l2 nm = x) := ⟨_, hide rfl⟩
 obtain ⟨RF, HRF⟩ : ∃ x, Hid (remF l2 nm = x) := ⟨_, hide rfl⟩
 go_wp2_with (first
  | go_skip
  | (refine wpList_st_get 9 _ rfl 0 rfl rfl H5.out _ Tryd.underlying9 rfl _ HN0.out ?_))
 refine (drem_any u0 l2 nm w14 (HL.out.more (by omega)) HNMB.out HLT.out (by have := HLN.out; omega) ((HT.out.below HB.out (Nat.le_refl _)).more HB.out.size)).mono ?_
 rintro e w15 ⟨v15, rfl, ho15, hb15⟩
 have HO15 := hide (ho15.reads hb15.size)
 clear ho15
 rw [HRE.out]
 rw [HRF.out] at HO15
 replace HL := hide (HL.out.below hb15 (by omega))
 replace HO := hide (HO.out.below hb15 (by omega))
 replace H5 := hide (H5.out.below hb15 H5.out.lt)
 replace HB := hide (HB.out.trans (hb15.mono HB.out.size))
 have hz15 := hb15.size
 clear hb15
 obtain ⟨B15, HBd15⟩ : ∃ k, Hid (w15.heap.size = k) := ⟨_, hide rfl⟩
 have hBd15 : B15 ≤ w15.heap.size ∧ w15.heap.size ≤ B15 := by have := HBd15.out; omega
 have HC := hide (show EntsB w15 B15 v15 RF from (HO15.out).more hBd15.2)
 clear HO15
 go_wp2_with (first
  | go_skip
  | (refine wpList_st_get 9 _ rfl 0 rfl rfl H5.out _ Tryd.underlying9 rfl _ HN0.out ?_))
 refine (dremR_any u0 l2 nm w15 (HL.out.more (by omega)) HNMB.out HLT.out (by have := HLN.out; omega)).mono ?_
 rintro e w16 ⟨v16, rfl, ho16, hb16⟩
 have HO16 := hide (ho16.reads hb16.size)
 clear ho16
 rw [HRE.out]
 rw [HRF.out] at HO16
 replace HL := hide (HL.out.below hb16 (by omega))
 replace HO := hide (HO.out.below hb16 (by omega))
 replace HC := hide (HC.out.below hb16 (by omega))
 replace H5 := hide (H5.out.below hb16 H5.out.lt)
 replace HB := hide (HB.out.trans (hb16.mono HB.out.size))
 have hz16 := hb16.size
 clear hb16
 obtain ⟨B16, HBd16⟩ : ∃ k, Hid (w16.heap.size = k) := ⟨_, hide rfl⟩
 have hBd16 : B16 ≤ w16.heap.size ∧ w16.heap.size ≤ B16 := by have := HBd16.out; omega
 have HD := hide (show EntsB w16 B16 v16 RF from (HO16.out).more hBd16.2)
 clear HO16
 go_wp2_with (first
  | go_skip
  | (refine wpList_st_get 9 _ rfl 0 rfl rfl H5.out _ Tryd.underlying9 rfl _ HN0.out ?_))
 obtain ⟨A0, c0, e0, h01, h02, _⟩ := HL.out
 unfold maxLen at h02
 obtain ⟨n2, HN2⟩ : ∃ k, Hid (l2.length = k) := ⟨_, hide rfl⟩
 rw [HN2.out] at e0 h01
 subst e0
 have hnc : n2 ≤ c0 := h01
 clear h01
 refine (dfind_any (.slice A0 n2 c0) l2 nm w16 (HL.out.more (by omega)) HNMB.out HLT.out (by have := HLN.out; omega)).mono ?_
 rintro e w17 (⟨z, zx, zy, hx, rfl, hrx, hry, hzw, hb17⟩ | ⟨hx, rfl, hb17⟩)
 · have HFD := hide hx
   clear hx
   replace HL := hide (HL.out.below hb17 (by omega))
   replace HO := hide (HO.out.below hb17 (by omega))
   replace HC := hide (HC.out.below hb17 (by omega))
   replace HD := hide (HD.out.below hb17 (by omega))
   replace H5 := hide (H5.out.below hb17 H5.out.lt)
   replace HB := hide (HB.out.trans (hb17.mono HB.out.size))
   have hz17 := hb17.size
   clear hb17
   have HZR := hide hrx.reads
   have HZW := hide hry.reads
   have HZ1 := hide (And.intro (bs_one_ hrx.reads) (bs_one_ hry.reads))
   have HZWF := hide hzw
   clear hrx hry hzw
   obtain ⟨g18, HG18⟩ : ∃ k, Hid (w17.heap.size = k) := ⟨_, hide rfl⟩
   have hg18 : g18 ≤ w17.heap.size ∧ w17.heap.size ≤ g18 := by have := HG18.out; omega
   have hlH5_18 : g5 < g18 := by have := H5.out.lt; omega
   replace HZR := hide (HZR.out.more hg18.2)
   replace HZW := hide (HZW.out.more hg18.2)
   go_wp2_with (first
    | go_skip
    | (refine wpList_alloc_blk rfl 45 rfl _ zero_ent ?_; intro w18 hba hwa hsa; rw [HG18.out] at hba hsa; try rw [HG18.out]; have H18 := hide hba; replace HL := hide (HL.out.below hwa (by omega)); replace HO := hide (HO.out.below hwa (by omega)); replace HC := hide (HC.out.below hwa (by omega)); replace HD := hide (HD.out.below hwa (by omega)); replace H5 := hide (H5.out.below hwa H5.out.lt); replace HB := hide (HB.out.trans (hwa.mono HB.out.size)); replace HZR := hide (HZR.out.below hwa hg18.1); replace HZW := hide (HZW.out.below hwa hg18.1); have hzw18 := hwa.size; clear hba hwa)
    | (refine wpList_st_putAll _ _ _ rfl rfl rfl H18.out (entC z zx zy) rfl (by rw [ent_lenL none_LE.1 none_LE.2, ent_lenL (HZWF.out.lens.1) (HZWF.out.lens.2)]) (size_entL (HZWF.out.lens.1) (HZWF.out.lens.2)) (ent_oneL HZ1.out.1 HZ1.out.2) ?_; intro w19 hbs hgs hss; replace HL := hide (HL.out.below ((Below.refl B0 _).grown hgs (by omega) (by intro k hk; injection hk; omega)) (Nat.le_refl _)); replace HO := hide (HO.out.below ((Below.refl B7 _).grown hgs (by omega) (by intro k hk; injection hk; omega)) (Nat.le_refl _)); replace HC := hide (HC.out.below ((Below.refl B15 _).grown hgs (by omega) (by intro k hk; injection hk; omega)) (Nat.le_refl _)); replace HD := hide (HD.out.below ((Below.refl B16 _).grown hgs (by omega) (by intro k hk; injection hk; omega)) (Nat.le_refl _)); replace H5 := hide (H5.out.grown hgs (by intro e; injection e; omega)); replace HB := hide (HB.out.grown hgs HB.out.size (by intro k hk; injection hk; omega)); replace H18 := hide hbs; have hzw19 := hss; replace HZR := hide (HZR.out.below ((Below.refl g18 _).grown hgs (by omega) (by intro k hk; injection hk; omega)) (Nat.le_refl _)); replace HZW := hide (HZW.out.below ((Below.refl g18 _).grown hgs (by omega) (by intro k hk; injection hk; omega)) (Nat.le_refl _)); clear hbs hgs hss))
   have HA0w := HL.out
   obtain ⟨A0', c0', e0', h01, h02, h03⟩ := HA0w
   have e0A : A0 = A0' := by injection e0'
   subst e0A
   clear e0' h01 h02
   have HA0 := hide h03
   obtain ⟨p, HP⟩ : ∃ k, Hid (posL l2 nm = k) := ⟨_, hide rfl⟩
   have hp2 : p ≤ n2 := by have := posL_le l2 nm; have := HP.out; have := HN2.out; omega
   have hn2 : n2 ≤ 18 := by have := HLN.out; have := HN2.out; omega
   have hpn : p < n2 := by
    rcases Nat.lt_or_ge p n2 with h | h
    · exact h
    · have := posL_none (l := l2) (nm := nm) (by rw [HP.out, HN2.out]; omega)
      rw [this] at HFD
      cases HFD.out
   have HZP := hide (show z = l2[p]'(by rw [HN2.out]; exact hpn) by
    have := posL_find (l := l2) (nm := nm) (by rw [HP.out, HN2.out]; exact hpn)
    have h2 := HFD.out
    rw [this] at h2
    injection h2 with h2
    subst p
    exact h2.symm)
   clear h03
   have HBe := hide (Below.refl w19.heap.size w19)
   go_loopw [20, 114] (fun v20 v114 wr => ∃ (j : Nat), v114 = .int .i64 (j : Int) ∧ j ≤ n2 ∧ v20 = .int .i64 (atN p j) ∧ Below w19.heap.size w19 wr) (fun _ v114 _ => n2 - (intOf v114).toNat)
   case atStart => exact ⟨0, by go_num, by omega, by rw [atN_zero], HBe.out⟩
   case round =>
    obtain ⟨j, rfl, hjn, rfl, hb⟩ := hrel
    have HBr := hide hb
    have hzr := hb.size
    clear hb
    by_cases hlt : j < n2
    · have hlt' : (j : Int) < (n2 : Int) := by omega
      obtain ⟨b, o, rfl, hbb, hca⟩ := HA0.out (by rw [HN2.out]; omega)
      obtain ⟨la, lb, hok, hrg⟩ := hca j (by rw [HN2.out]; exact hlt)
      have HPN := hide (fun (h : j < p) => posL_not (l := l2) (nm := nm) (i := j) (by rw [HN2.out]; exact hlt) (by rw [HP.out]; exact h))
      have HPA := hide (fun (h : j = p) => show (l2[j]'(by rw [HN2.out]; exact hlt)).name = nm by
       have e : j = posL l2 nm := h.trans HP.out.symm
       have hp : posL l2 nm < l2.length := by rw [← e, HN2.out]; exact hlt
       have h2 := posL_at hp
       simp only [← e] at h2
       exact h2)
      obtain ⟨q, HQ⟩ : ∃ q, Hid (l2[j]'(by rw [HN2.out]; exact hlt) = q) := ⟨_, hide rfl⟩
      rw [HQ.out] at hok hrg HPN HPA
      have HQB := hide hok.nameB
      have hbW : b < wr.heap.size := by omega
      have hgW : g5 < wr.heap.size := by have := H5.out.lt; omega
      have HNX := hide (show wr.cell? ⟨b, o + j * 108, none⟩ = some (.string (strOfNums q.name)) from (HBr.out.cell (p := ⟨b, o + j * 108, none⟩) (by show b < _; omega)).trans (by have := hrg 0 _ ent_name; rwa [Nat.add_zero] at this))
      have HNE := hide (show wr.cell? ⟨g5, 0, none⟩ = some (.string (strOfNums nm)) by rw [(H5.out.below HBr.out H5.out.lt).cell]; exact HN0.out)
      clear hok hrg hca
      obtain ⟨at_, HAT⟩ : ∃ k, Hid (atN p j = k) := ⟨_, hide rfl⟩
      have hat : -1 ≤ at_ ∧ at_ ≤ 18 := by have := HAT.out; unfold atN at this; split at this <;> omega
      by_cases hpj : p < j
      · have HNEG := hide (show decide (at_ < 0) = false by rw [← HAT.out]; unfold atN; rw [if_pos hpj]; exact decide_eq_false (by omega))
        have HNXT := hide (show atN p (j + 1) = at_ by rw [← HAT.out]; unfold atN; rw [if_pos hpj, if_pos (by omega)])
        rw [HAT.out]
        clear hpj HPN HPA
        go_upto_region 21 with fail
        try simp only [Act.put, s1_, s2_, s3_]
        refine wp_region_qw (Below wr.heap.size wr) (by kernel_rfl) (by kernel_rfl) (Below.refl _ _).drew ?_
        refine qw_val (v := .int .i64 at_) 117 rfl (by kernel_rfl) (fun w' hS => exec_move _ rfl (.int .i64 at_) rfl) ?_
        simp only [Act.put, s1_, s2_, s3_]
        refine qw_val (v := .bool false) 118 rfl (by kernel_rfl) (fun w' hS => exec_lss_i64 _ _ _ _ rfl at_ 0 rfl rfl _ HNEG.out) ?_
        simp only [Act.put, s1_, s2_, s3_]
        refine qw_val (v := .bool false) 119 rfl (by kernel_rfl) (fun w' hS => exec_move _ rfl (.bool false) rfl) ?_
        simp only [Act.put, s1_, s2_, s3_]
        refine qw_skip 120 rfl (by kernel_rfl) ?_
        simp only [Act.put, s1_, s2_, s3_]
        refine qw_skip 121 rfl (by kernel_rfl) ?_
        simp only [Act.put, s1_, s2_, s3_]
        refine qw_skip 122 rfl (by kernel_rfl) ?_
        simp only [Act.put, s1_, s2_, s3_]
        refine qw_skip 123 rfl (by kernel_rfl) ?_
        simp only [Act.put, s1_, s2_, s3_]
        refine qw_skip 124 rfl (by kernel_rfl) ?_
        simp only [Act.put, s1_, s2_, s3_]
        refine qw_skip 125 rfl (by kernel_rfl) ?_
        simp only [Act.put, s1_, s2_, s3_]
        refine qw_skip 126 rfl (by kernel_rfl) ?_
        simp only [Act.put, s1_, s2_, s3_]
        refine qw_skip 127 rfl (by kernel_rfl) ?_
        simp only [Act.put, s1_, s2_, s3_]
        refine qw_val (v := .bool false) 128 rfl (by kernel_rfl) (fun w' hS => exec_pickG _ _ _ rfl false rfl _ rfl) ?_
        simp only [Act.put, s1_, s2_, s3_]
        refine qw_nil ?_
        intro w21 hS
        have hS21 := HBr.out.trans (hS.mono hzr)
        clear hS
        go_wp2_with fail
        go_roundw
        case measure => simp [intOf]; omega
        case rel => exact ⟨j + 1, by go_num, by omega, by rw [HNXT.out], hS21⟩
      · have HNEG := hide (show decide (at_ < 0) = true by rw [← HAT.out]; unfold atN; rw [if_neg hpj]; rfl)
        rw [HAT.out]
        by_cases hje : j = p
        · have HEQN := hide (show decide (q.name = nm) = true from decide_eq_true (HPA.out hje))
          have HNXT := hide (show atN p (j + 1) = (j : Int) by unfold atN; rw [if_pos (by omega), hje])
          clear hpj hje HPN HPA
          go_upto_region 21 with fail
          try simp only [Act.put, s1_, s2_, s3_]
          refine wp_region_qw (Below wr.heap.size wr) (by kernel_rfl) (by kernel_rfl) (Below.refl _ _).drew ?_
          refine qw_val (v := .int .i64 at_) 117 rfl (by kernel_rfl) (fun w' hS => exec_move _ rfl (.int .i64 at_) rfl) ?_
          simp only [Act.put, s1_, s2_, s3_]
          refine qw_val (v := .bool true) 118 rfl (by kernel_rfl) (fun w' hS => exec_lss_i64 _ _ _ _ rfl at_ 0 rfl rfl _ HNEG.out) ?_
          simp only [Act.put, s1_, s2_, s3_]
          refine qw_val (v := .bool true) 119 rfl (by kernel_rfl) (fun w' hS => exec_move _ rfl (.bool true) rfl) ?_
          simp only [Act.put, s1_, s2_, s3_]
          refine qw_val (v := .slice (some ⟨b, o, none⟩) n2 c0) 120 rfl (by kernel_rfl) (fun w' hS => exec_move _ rfl (.slice (some ⟨b, o, none⟩) n2 c0) rfl) ?_
          simp only [Act.put, s1_, s2_, s3_]
          refine qw_val (v := .int .i64 ((j : Int))) 121 rfl (by kernel_rfl) (fun w' hS => exec_move _ rfl (.int .i64 ((j : Int))) rfl) ?_
          simp only [Act.put, s1_, s2_, s3_]
          refine qw_val (v := .pointer (some ⟨b, o + j * 108, none⟩)) 122 rfl (by kernel_rfl) (fun w' hS => exec_indexG _ _ _ rfl _ n2 c0 b o 108 j rfl rfl rfl (by omega) (by kernel_rfl) _ (by omega)) ?_
          simp only [Act.put, s1_, s2_, s3_]
          refine qw_val (v := .pointer (some ⟨b, o + j * 108, none⟩)) 123 rfl (by kernel_rfl) (fun w' hS => exec_fieldG _ _ 0 0 rfl b (o + j * 108) rfl (by kernel_rfl) _ (by first | rfl | omega)) ?_
          simp only [Act.put, s1_, s2_, s3_]
          refine qw_val (v := .string (strOfNums q.name)) 124 rfl (by kernel_rfl) (fun w' hS => exec_load_one _ _ rfl b (o + j * 108) rfl _ Tryd.underlying9 rfl _ ((hS.cell (p := ⟨b, o + j * 108, none⟩) hbW).trans HNX.out)) ?_
          simp only [Act.put, s1_, s2_, s3_]
          refine qw_val (v := .pointer (some ⟨g5, 0, none⟩)) 125 rfl (by kernel_rfl) (fun w' hS => exec_fieldG _ _ 0 0 rfl g5 0 rfl (by kernel_rfl) _ (by first | rfl | omega)) ?_
          simp only [Act.put, s1_, s2_, s3_]
          refine qw_val (v := .string (strOfNums nm)) 126 rfl (by kernel_rfl) (fun w' hS => exec_load_one _ _ rfl g5 0 rfl _ Tryd.underlying9 rfl _ ((hS.cell (p := ⟨g5, 0, none⟩) hgW).trans HNE.out)) ?_
          simp only [Act.put, s1_, s2_, s3_]
          refine qw_val (v := .bool true) 127 rfl (by kernel_rfl) (fun w' hS => exec_eql_name _ _ _ rfl q.name nm rfl rfl HQB.out HNMB.out _ HEQN.out) ?_
          simp only [Act.put, s1_, s2_, s3_]
          refine qw_val (v := .bool true) 128 rfl (by kernel_rfl) (fun w' hS => exec_pickG _ _ _ rfl true rfl _ rfl) ?_
          simp only [Act.put, s1_, s2_, s3_]
          refine qw_nil ?_
          intro w21 hS
          have hS21 := HBr.out.trans (hS.mono hzr)
          clear hS
          go_wp2_with fail
          go_roundw
          case measure => simp [intOf]; omega
          case rel => exact ⟨j + 1, by go_num, by omega, by rw [HNXT.out], hS21⟩
        · have HEQN := hide (show decide (q.name = nm) = false from decide_eq_false (HPN.out (by omega)))
          have HNXT := hide (show atN p (j + 1) = at_ by rw [← HAT.out]; unfold atN; rw [if_neg hpj, if_neg (by omega)])
          clear hpj hje HPN HPA
          go_upto_region 21 with fail
          try simp only [Act.put, s1_, s2_, s3_]
          refine wp_region_qw (Below wr.heap.size wr) (by kernel_rfl) (by kernel_rfl) (Below.refl _ _).drew ?_
          refine qw_val (v := .int .i64 at_) 117 rfl (by kernel_rfl) (fun w' hS => exec_move _ rfl (.int .i64 at_) rfl) ?_
          simp only [Act.put, s1_, s2_, s3_]
          refine qw_val (v := .bool true) 118 rfl (by kernel_rfl) (fun w' hS => exec_lss_i64 _ _ _ _ rfl at_ 0 rfl rfl _ HNEG.out) ?_
          simp only [Act.put, s1_, s2_, s3_]
          refine qw_val (v := .bool true) 119 rfl (by kernel_rfl) (fun w' hS => exec_move _ rfl (.bool true) rfl) ?_
          simp only [Act.put, s1_, s2_, s3_]
          refine qw_val (v := .slice (some ⟨b, o, none⟩) n2 c0) 120 rfl (by kernel_rfl) (fun w' hS => exec_move _ rfl (.slice (some ⟨b, o, none⟩) n2 c0) rfl) ?_
          simp only [Act.put, s1_, s2_, s3_]
          refine qw_val (v := .int .i64 ((j : Int))) 121 rfl (by kernel_rfl) (fun w' hS => exec_move _ rfl (.int .i64 ((j : Int))) rfl) ?_
          simp only [Act.put, s1_, s2_, s3_]
          refine qw_val (v := .pointer (some ⟨b, o + j * 108, none⟩)) 122 rfl (by kernel_rfl) (fun w' hS => exec_indexG _ _ _ rfl _ n2 c0 b o 108 j rfl rfl rfl (by omega) (by kernel_rfl) _ (by omega)) ?_
          simp only [Act.put, s1_, s2_, s3_]
          refine qw_val (v := .pointer (some ⟨b, o + j * 108, none⟩)) 123 rfl (by kernel_rfl) (fun w' hS => exec_fieldG _ _ 0 0 rfl b (o + j * 108) rfl (by kernel_rfl) _ (by first | rfl | omega)) ?_
          simp only [Act.put, s1_, s2_, s3_]
          refine qw_val (v := .string (strOfNums q.name)) 124 rfl (by kernel_rfl) (fun w' hS => exec_load_one _ _ rfl b (o + j * 108) rfl _ Tryd.underlying9 rfl _ ((hS.cell (p := ⟨b, o + j * 108, none⟩) hbW).trans HNX.out)) ?_
          simp only [Act.put, s1_, s2_, s3_]
          refine qw_val (v := .pointer (some ⟨g5, 0, none⟩)) 125 rfl (by kernel_rfl) (fun w' hS => exec_fieldG _ _ 0 0 rfl g5 0 rfl (by kernel_rfl) _ (by first | rfl | omega)) ?_
          simp only [Act.put, s1_, s2_, s3_]
          refine qw_val (v := .string (strOfNums nm)) 126 rfl (by kernel_rfl) (fun w' hS => exec_load_one _ _ rfl g5 0 rfl _ Tryd.underlying9 rfl _ ((hS.cell (p := ⟨g5, 0, none⟩) hgW).trans HNE.out)) ?_
          simp only [Act.put, s1_, s2_, s3_]
          refine qw_val (v := .bool false) 127 rfl (by kernel_rfl) (fun w' hS => exec_eql_name _ _ _ rfl q.name nm rfl rfl HQB.out HNMB.out _ HEQN.out) ?_
          simp only [Act.put, s1_, s2_, s3_]
          refine qw_val (v := .bool false) 128 rfl (by kernel_rfl) (fun w' hS => exec_pickG _ _ _ rfl true rfl _ rfl) ?_
          simp only [Act.put, s1_, s2_, s3_]
          refine qw_nil ?_
          intro w21 hS
          have hS21 := HBr.out.trans (hS.mono hzr)
          clear hS
          go_wp2_with fail
          go_roundw
          case measure => simp [intOf]; omega
          case rel => exact ⟨j + 1, by go_num, by omega, by rw [HNXT.out], hS21⟩
    · obtain rfl : j = n2 := by omega
      have hlt' : ¬ (j : Int) < (j : Int) := by omega
      have HATE := hide (show atN p j = (p : Int) by unfold atN; rw [if_pos hpn])
      rw [HATE.out]
      have HBw := HBr.out
      have HBq := HBr.out
      replace HL := hide (HL.out.below HBw (by omega))
      replace HO := hide (HO.out.below HBw (by omega))
      replace HC := hide (HC.out.below HBw (by omega))
      replace HD := hide (HD.out.below HBw (by omega))
      replace H5 := hide (H5.out.below HBw H5.out.lt)
      replace H18 := hide (H18.out.below HBw H18.out.lt)
      replace HB := hide (HB.out.trans (HBw.mono HB.out.size))
      clear HBw HBr
      replace HZR := hide (HZR.out.below HBq (by omega))
      replace HZW := hide (HZW.out.below HBq (by omega))
      have HZE := hide (fun (W : World) => show EntOk W W.heap.size EntD.none_ (.slice none 0 0) (.slice none 0 0) from ⟨EntD.none_wf, Bs.nil_ _ _, Bs.nil_ _ _⟩)
      obtain ⟨gq, HGq⟩ : ∃ k, Hid (wr.heap.size = k) := ⟨_, hide rfl⟩
      have hgq : gq ≤ wr.heap.size ∧ wr.heap.size ≤ gq := by have := HGq.out; omega
      go_upto_region 24 with fail
      try simp only [Act.put, s1_, s2_, s3_]
      go_cut [152] from 131 to 152 (fun v152 wx => v152 = .bool false ∧ Below wr.heap.size wr wx)
      case first =>
       have HGE := hide (show decide ((0 : Int) ≤ (p : Int)) = true from decide_eq_true (by omega))
       have hg18W : g18 < wr.heap.size := H18.out.lt
       have HZC := hide (show wr.rangeAt g18 0 (entC z zx zy) from blk_range H18.out 0 _ (fun j u hu => by rw [Nat.zero_add]; exact hu))
       have HZS := hide (show (Tryd.prog.info? 45).map (·.size) = some (entC z zx zy).length from size_entL HZWF.out.lens.1 HZWF.out.lens.2)
       obtain ⟨vm, HVM, HVME⟩ : ∃ v, Hid (sliced A0 p (p + 1) c0 108 = v) ∧ Hid (EntsB wr B0 v [z]) := by
        obtain ⟨b, o, rfl, _, _⟩ := HA0.out (by rw [HN2.out]; omega)
        obtain ⟨v, h1, h2⟩ := ents_mid (p := p) HL.out (by rw [HN2.out]; exact hpn)
        exact ⟨v, hide h1, hide (by rw [HZP.out]; exact h2)⟩
       rcases R with _ | _
       case false =>
        refine wp_region_held_drew (S := fun w' => Below wr.heap.size wr w') (by kernel_rfl) (Below.refl _ _).drew (fun hHeld => ?_)
        refine take_e 131 (i := 0) (v := .slice A0 j c0) rfl (by kernel_rfl) (Or.inl ⟨by kernel_rfl, fun w' hS => exec_move _ rfl (.slice A0 j c0) rfl⟩) hHeld ?_
        try simp only [Act.put, s1_, s2_, s3_]
        refine wpAnyH_ready (rs := [1]) (by kernel_rfl) (by simp) (AllReadyH.cons rfl (fun K hK => ?_) AllReadyH.nil)
        rw [if_pos (by kernel_rfl)]
        try go_simp
        refine (drightR_any (.slice A0 j c0) l2 _ ((HL.out.below hHeld (by omega)).more (by have := hHeld.size; omega)) HLT.out (by have := HLN.out; omega)).mono ?_
        rintro e w132 ⟨rfl, hb132⟩
        rw [HR.out]
        have HX := hide (hHeld.trans (hb132.mono hHeld.size))
        clear hb132
        refine hK.out _ _ HX.out (fun hHeld => ?_)
        clear HX hK K
        try simp only [Act.put, s1_, s2_, s3_]
        refine take_e 133 (i := 2) (v := .bool false) rfl (by kernel_rfl) (Or.inl ⟨by kernel_rfl, fun w' hS => exec_move _ rfl (.bool false) rfl⟩) hHeld ?_
        try simp only [Act.put, s1_, s2_, s3_]
        refine take_e 134 (i := 3) (v := undef) rfl (by kernel_rfl) (Or.inr ⟨by kernel_rfl, rfl⟩) hHeld ?_
        try simp only [Act.put, s1_, s2_, s3_]
        refine take_e 135 (i := 4) (v := undef) rfl (by kernel_rfl) (Or.inr ⟨by kernel_rfl, rfl⟩) hHeld ?_
        try simp only [Act.put, s1_, s2_, s3_]
        refine take_e 136 (i := 5) (v := undef) rfl (by kernel_rfl) (Or.inr ⟨by kernel_rfl, rfl⟩) hHeld ?_
        try simp only [Act.put, s1_, s2_, s3_]
        refine take_e 137 (i := 6) (v := undef) rfl (by kernel_rfl) (Or.inr ⟨by kernel_rfl, rfl⟩) hHeld ?_
        try simp only [Act.put, s1_, s2_, s3_]
        refine take_e 138 (i := 7) (v := undef) rfl (by kernel_rfl) (Or.inr ⟨by kernel_rfl, rfl⟩) hHeld ?_
        try simp only [Act.put, s1_, s2_, s3_]
        refine take_e 139 (i := 8) (v := undef) rfl (by kernel_rfl) (Or.inr ⟨by kernel_rfl, rfl⟩) hHeld ?_
        try simp only [Act.put, s1_, s2_, s3_]
        refine take_e 140 (i := 9) (v := undef) rfl (by kernel_rfl) (Or.inr ⟨by kernel_rfl, rfl⟩) hHeld ?_
        try simp only [Act.put, s1_, s2_, s3_]
        refine take_e 141 (i := 10) (v := undef) rfl (by kernel_rfl) (Or.inr ⟨by kernel_rfl, rfl⟩) hHeld ?_
        try simp only [Act.put, s1_, s2_, s3_]
        refine take_e 142 (i := 11) (v := undef) rfl (by kernel_rfl) (Or.inr ⟨by kernel_rfl, rfl⟩) hHeld ?_
        try simp only [Act.put, s1_, s2_, s3_]
        refine take_e 143 (i := 12) (v := undef) rfl (by kernel_rfl) (Or.inr ⟨by kernel_rfl, rfl⟩) hHeld ?_
        try simp only [Act.put, s1_, s2_, s3_]
        refine take_e 144 (i := 13) (v := undef) rfl (by kernel_rfl) (Or.inr ⟨by kernel_rfl, rfl⟩) hHeld ?_
        try simp only [Act.put, s1_, s2_, s3_]
        refine take_e 145 (i := 14) (v := undef) rfl (by kernel_rfl) (Or.inr ⟨by kernel_rfl, rfl⟩) hHeld ?_
        try simp only [Act.put, s1_, s2_, s3_]
        refine take_e 146 (i := 15) (v := undef) rfl (by kernel_rfl) (Or.inr ⟨by kernel_rfl, rfl⟩) hHeld ?_
        try simp only [Act.put, s1_, s2_, s3_]
        refine take_e 147 (i := 16) (v := undef) rfl (by kernel_rfl) (Or.inr ⟨by kernel_rfl, rfl⟩) hHeld ?_
        try simp only [Act.put, s1_, s2_, s3_]
        refine take_e 148 (i := 17) (v := undef) rfl (by kernel_rfl) (Or.inr ⟨by kernel_rfl, rfl⟩) hHeld ?_
        try simp only [Act.put, s1_, s2_, s3_]
        refine take_e 149 (i := 18) (v := undef) rfl (by kernel_rfl) (Or.inr ⟨by kernel_rfl, rfl⟩) hHeld ?_
        try simp only [Act.put, s1_, s2_, s3_]
        refine take_e 150 (i := 19) (v := undef) rfl (by kernel_rfl) (Or.inr ⟨by kernel_rfl, rfl⟩) hHeld ?_
        try simp only [Act.put, s1_, s2_, s3_]
        refine take_e 151 (i := 20) (v := undef) rfl (by kernel_rfl) (Or.inr ⟨by kernel_rfl, rfl⟩) hHeld ?_
        try simp only [Act.put, s1_, s2_, s3_]
        refine take_e 152 (i := 21) (v := .bool false) rfl (by kernel_rfl) (Or.inl ⟨by kernel_rfl, fun w' hS => exec_pickG _ _ _ rfl false rfl _ rfl⟩) hHeld ?_
        try simp only [Act.put, s1_, s2_, s3_]
        refine wpAnyH_done (by kernel_rfl) ?_ _
        go_wp2_with fail
        go_meet
        exact ⟨rfl, hHeld⟩
       refine wp_region_held_drew (S := fun w' => Below wr.heap.size wr w') (by kernel_rfl) (Below.refl _ _).drew (fun hHeld => ?_)
       refine take_e 131 (i := 0) (v := .slice A0 j c0) rfl (by kernel_rfl) (Or.inl ⟨by kernel_rfl, fun w' hS => exec_move _ rfl (.slice A0 j c0) rfl⟩) hHeld ?_
       try simp only [Act.put, s1_, s2_, s3_]
       refine wpAnyH_ready (rs := [1]) (by kernel_rfl) (by simp) (AllReadyH.cons rfl (fun K hK => ?_) AllReadyH.nil)
       rw [if_pos (by kernel_rfl)]
       try go_simp
       refine (drightR_any (.slice A0 j c0) l2 _ ((HL.out.below hHeld (by omega)).more (by have := hHeld.size; omega)) HLT.out (by have := HLN.out; omega)).mono ?_
       rintro e w132 ⟨rfl, hb132⟩
       rw [HR.out]
       have HX := hide (hHeld.trans (hb132.mono hHeld.size))
       clear hb132
       refine hK.out _ _ HX.out (fun hHeld => ?_)
       clear HX hK K
       try simp only [Act.put, s1_, s2_, s3_]
       refine take_e 133 (i := 2) (v := .bool true) rfl (by kernel_rfl) (Or.inl ⟨by kernel_rfl, fun w' hS => exec_move _ rfl (.bool true) rfl⟩) hHeld ?_
       try simp only [Act.put, s1_, s2_, s3_]
       refine take_e 134 (i := 3) (v := .bool true) rfl (by kernel_rfl) (Or.inl ⟨by kernel_rfl, fun w' hS => exec_move _ rfl (.bool true) rfl⟩) hHeld ?_
       try simp only [Act.put, s1_, s2_, s3_]
       refine take_e 135 (i := 4) (v := .int .i64 ((p : Int))) rfl (by kernel_rfl) (Or.inl ⟨by kernel_rfl, fun w' hS => exec_move _ rfl (.int .i64 ((p : Int))) rfl⟩) hHeld ?_
       try simp only [Act.put, s1_, s2_, s3_]
       refine take_e 136 (i := 5) (v := .bool true) rfl (by kernel_rfl) (Or.inl ⟨by kernel_rfl, fun w' hS => exec_geq_i64 _ _ _ _ rfl (p : Int) 0 rfl rfl _ HGE.out⟩) hHeld ?_
       try simp only [Act.put, s1_, s2_, s3_]
       refine take_e 137 (i := 6) (v := .bool false) rfl (by kernel_rfl) (Or.inl ⟨by kernel_rfl, fun w' hS => exec_neqB2 _ _ _ rfl true true rfl rfl _ rfl⟩) hHeld ?_
       try simp only [Act.put, s1_, s2_, s3_]
       refine take_e 138 (i := 7) (v := .bool false) rfl (by kernel_rfl) (Or.inl ⟨by kernel_rfl, fun w' hS => exec_move _ rfl (.bool false) rfl⟩) hHeld ?_
       try simp only [Act.put, s1_, s2_, s3_]
       refine take_e 139 (i := 8) (v := .bool true) rfl (by kernel_rfl) (Or.inl ⟨by kernel_rfl, fun w' hS => exec_move _ rfl (.bool true) rfl⟩) hHeld ?_
       try simp only [Act.put, s1_, s2_, s3_]
       refine take_e 140 (i := 9) (v := .bool true) rfl (by kernel_rfl) (Or.inl ⟨by kernel_rfl, fun w' hS => exec_move _ rfl (.bool true) rfl⟩) hHeld ?_
       try simp only [Act.put, s1_, s2_, s3_]
       refine take_e 141 (i := 10) (v := .agg (entC z zx zy).toArray) rfl (by kernel_rfl) (Or.inl ⟨by kernel_rfl, fun w' hS => exec_loadAll _ _ rfl g18 0 rfl _ _ (fun j' u hu => (hS.cell (p := ⟨g18, 0 + j', none⟩) hg18W).trans (HZC.out j' u hu)) Tryd.underlying45 rfl HZS.out⟩) hHeld ?_
       try simp only [Act.put, s1_, s2_, s3_]
       refine take_e 143 (i := 12) (v := .slice A0 j c0) rfl (by kernel_rfl) (Or.inl ⟨by kernel_rfl, fun w' hS => exec_move _ rfl (.slice A0 j c0) rfl⟩) hHeld ?_
       try simp only [Act.put, s1_, s2_, s3_]
       refine take_e 144 (i := 13) (v := .int .i64 ((p : Int))) rfl (by kernel_rfl) (Or.inl ⟨by kernel_rfl, fun w' hS => exec_move _ rfl (.int .i64 ((p : Int))) rfl⟩) hHeld ?_
       try simp only [Act.put, s1_, s2_, s3_]
       refine take_e 145 (i := 14) (v := .int .i64 ((p : Int))) rfl (by kernel_rfl) (Or.inl ⟨by kernel_rfl, fun w' hS => exec_move _ rfl (.int .i64 ((p : Int))) rfl⟩) hHeld ?_
       try simp only [Act.put, s1_, s2_, s3_]
       refine take_e 146 (i := 15) (v := .int .i64 (((p + 1 : Nat) : Int))) rfl (by kernel_rfl) (Or.inl ⟨by kernel_rfl, fun w' hS => exec_addG _ _ _ rfl _ _ _ rfl rfl (by omega) (by omega)⟩) hHeld ?_
       try simp only [Act.put, s1_, s2_, s3_]
       refine take_e 147 (i := 16) (v := vm) rfl (by kernel_rfl) (Or.inl ⟨by kernel_rfl, fun w' hS => (by rw [← HVM.out]; exact exec_slice_mid 29 45 108 Tryd.underlying29 size_ent _ _ _ rfl A0 j c0 p (p + 1) rfl rfl rfl (by omega) (by omega))⟩) hHeld ?_
       try simp only [Act.put, s1_, s2_, s3_]
       refine wpAnyH_ready (rs := [11]) (by kernel_rfl) (by simp) (AllReadyH.cons rfl (fun K hK => ?_) AllReadyH.nil)
       rw [if_pos (by kernel_rfl)]
       refine wp_lit_entD 142 rfl _ rfl (EntL.mk z zx zy) HZWF.out rfl ?_
       intro g142 w142 hl142 hb142 hw142
       have H142 := hide hb142
       have HX := hide (hHeld.trans (hw142.mono hHeld.size))
       clear hl142 hb142 hw142
       refine hK.out _ _ HX.out (fun hHeld => ?_)
       clear HX hK K
       try simp only [Act.put, s1_, s2_, s3_]
       refine wpAnyH_ready (rs := [17]) (by kernel_rfl) (by simp) (AllReadyH.cons rfl (fun K hK => ?_) AllReadyH.nil)
       rw [if_pos (by kernel_rfl)]
       try go_simp
       refine (keep_ents (.slice (some ⟨g142, 0, none⟩) 1 1) vm [z] [z] _ _ (Nat.le_refl _) (ents_one H142.out H142.out.lt ⟨HZWF.out, (HZR.out.below hHeld (by omega)).more (by have := hHeld.size; omega), (HZW.out.below hHeld (by omega)).more (by have := hHeld.size; omega)⟩) ((HVME.out.below hHeld (by omega)).more (by have := hHeld.size; omega))).mono ?_
       rintro e w148 ⟨rfl, hb148⟩
       rw [(entsEq_iff [z] [z]).2 rfl]
       have HX := hide (hHeld.trans (hb148.mono hHeld.size))
       clear hb148
       refine hK.out _ _ HX.out (fun hHeld => ?_)
       clear HX hK K
       try simp only [Act.put, s1_, s2_, s3_]
       refine take_e 149 (i := 18) (v := .bool false) rfl (by kernel_rfl) (Or.inl ⟨by kernel_rfl, fun w' hS => exec_notG _ _ rfl true rfl _ rfl⟩) hHeld ?_
       try simp only [Act.put, s1_, s2_, s3_]
       refine take_e 150 (i := 19) (v := .bool false) rfl (by kernel_rfl) (Or.inl ⟨by kernel_rfl, fun w' hS => exec_pickG _ _ _ rfl true rfl _ rfl⟩) hHeld ?_
       try simp only [Act.put, s1_, s2_, s3_]
       refine take_e 151 (i := 20) (v := .bool false) rfl (by kernel_rfl) (Or.inl ⟨by kernel_rfl, fun w' hS => exec_pickG _ _ _ rfl false rfl _ rfl⟩) hHeld ?_
       try simp only [Act.put, s1_, s2_, s3_]
       refine take_e 152 (i := 21) (v := .bool false) rfl (by kernel_rfl) (Or.inl ⟨by kernel_rfl, fun w' hS => exec_pickG _ _ _ rfl true rfl _ rfl⟩) hHeld ?_
       try simp only [Act.put, s1_, s2_, s3_]
       refine wpAnyH_done (by kernel_rfl) ?_ _
       go_wp2_with fail
       go_meet
       exact ⟨rfl, hHeld⟩
      obtain ⟨rfl, hS⟩ := hcut
      replace HL := hide (HL.out.below hS (by omega))
      replace HO := hide (HO.out.below hS (by omega))
      replace HC := hide (HC.out.below hS (by omega))
      replace HD := hide (HD.out.below hS (by omega))
      replace HB := hide (HB.out.trans (hS.mono HB.out.size))
      have hzs := hS.size
      clear hS
      have HRQ := hide (show (RE == RE) = true by simp)
      go_wp2_with (first
       | go_skip
       | (refine wpList_val_ rfl (exec_eql_i64 _ _ _ _ rfl RE RE rfl rfl _ HRQ.out) ?_))
      refine (keep_ents v15 v16 RF RF wc wc.heap.size (Nat.le_refl _) (HC.out.more (by omega)) (HD.out.more (by omega))).mono ?_
      rintro e w30 ⟨rfl, hb30⟩
      rw [(entsEq_iff RF RF).2 rfl]
      replace HL := hide (HL.out.below hb30 (by omega))
      replace HO := hide (HO.out.below hb30 (by omega))
      replace HC := hide (HC.out.below hb30 (by omega))
      replace HD := hide (HD.out.below hb30 (by omega))
      replace HB := hide (HB.out.trans (hb30.mono HB.out.size))
      have hz30 := hb30.size
      clear hb30
      go_wp2_with (first
       | go_skip)
      refine (wakes23 w30 ((HT.out.below HB.out (Nat.le_refl _)).more HB.out.size)).mono ?_
      rintro e w31 ⟨rfl, hb31⟩
      replace HL := hide (HL.out.below hb31 (by omega))
      replace HO := hide (HO.out.below hb31 (by omega))
      replace HC := hide (HC.out.below hb31 (by omega))
      replace HD := hide (HD.out.below hb31 (by omega))
      replace HB := hide (HB.out.trans (hb31.mono HB.out.size))
      have hz31 := hb31.size
      clear hb31
      go_wp2_with go_skip
      go_ret
      exact ⟨rfl, HB.out⟩
 · have HFD := hide hx
   clear hx
   replace HL := hide (HL.out.below hb17 (by omega))
   replace HO := hide (HO.out.below hb17 (by omega))
   replace HC := hide (HC.out.below hb17 (by omega))
   replace HD := hide (HD.out.below hb17 (by omega))
   replace H5 := hide (H5.out.below hb17 H5.out.lt)
   replace HB := hide (HB.out.trans (hb17.mono HB.out.size))
   have hz17 := hb17.size
   clear hb17
   obtain ⟨g18, HG18⟩ : ∃ k, Hid (w17.heap.size = k) := ⟨_, hide rfl⟩
   have hg18 : g18 ≤ w17.heap.size ∧ w17.heap.size ≤ g18 := by have := HG18.out; omega
   have hlH5_18 : g5 < g18 := by have := H5.out.lt; omega
   go_wp2_with (first
    | go_skip
    | (refine wpList_alloc_blk rfl 45 rfl _ zero_ent ?_; intro w18 hba hwa hsa; rw [HG18.out] at hba hsa; try rw [HG18.out]; have H18 := hide hba; replace HL := hide (HL.out.below hwa (by omega)); replace HO := hide (HO.out.below hwa (by omega)); replace HC := hide (HC.out.below hwa (by omega)); replace HD := hide (HD.out.below hwa (by omega)); replace H5 := hide (H5.out.below hwa H5.out.lt); replace HB := hide (HB.out.trans (hwa.mono HB.out.size)); have hzw18 := hwa.size; clear hba hwa)
    | (refine wpList_st_putAll _ _ _ rfl rfl rfl H18.out (entC EntD.none_ (.slice none 0 0) (.slice none 0 0)) rfl rfl (size_entL none_LE.1 none_LE.2) (ent_oneL rfl rfl) ?_; intro w19 hbs hgs hss; replace HL := hide (HL.out.below ((Below.refl B0 _).grown hgs (by omega) (by intro k hk; injection hk; omega)) (Nat.le_refl _)); replace HO := hide (HO.out.below ((Below.refl B7 _).grown hgs (by omega) (by intro k hk; injection hk; omega)) (Nat.le_refl _)); replace HC := hide (HC.out.below ((Below.refl B15 _).grown hgs (by omega) (by intro k hk; injection hk; omega)) (Nat.le_refl _)); replace HD := hide (HD.out.below ((Below.refl B16 _).grown hgs (by omega) (by intro k hk; injection hk; omega)) (Nat.le_refl _)); replace H5 := hide (H5.out.grown hgs (by intro e; injection e; omega)); replace HB := hide (HB.out.grown hgs HB.out.size (by intro k hk; injection hk; omega)); replace H18 := hide hbs; have hzw19 := hss; clear hbs hgs hss))
   have HA0w := HL.out
   obtain ⟨A0', c0', e0', h01, h02, h03⟩ := HA0w
   have e0A : A0 = A0' := by injection e0'
   subst e0A
   clear e0' h01 h02
   have HA0 := hide h03
   obtain ⟨p, HP⟩ : ∃ k, Hid (posL l2 nm = k) := ⟨_, hide rfl⟩
   have hp2 : p ≤ n2 := by have := posL_le l2 nm; have := HP.out; have := HN2.out; omega
   have hn2 : n2 ≤ 18 := by have := HLN.out; have := HN2.out; omega
   have hpn : ¬ p < n2 := fun h => by
    have := posL_find (l := l2) (nm := nm) (by rw [HP.out, HN2.out]; exact h)
    rw [this] at HFD
    cases HFD.out
   clear h03
   have HBe := hide (Below.refl w19.heap.size w19)
   go_loopw [20, 114] (fun v20 v114 wr => ∃ (j : Nat), v114 = .int .i64 (j : Int) ∧ j ≤ n2 ∧ v20 = .int .i64 (atN p j) ∧ Below w19.heap.size w19 wr) (fun _ v114 _ => n2 - (intOf v114).toNat)
   case atStart => exact ⟨0, by go_num, by omega, by rw [atN_zero], HBe.out⟩
   case round =>
    obtain ⟨j, rfl, hjn, rfl, hb⟩ := hrel
    have HBr := hide hb
    have hzr := hb.size
    clear hb
    by_cases hlt : j < n2
    · have hlt' : (j : Int) < (n2 : Int) := by omega
      obtain ⟨b, o, rfl, hbb, hca⟩ := HA0.out (by rw [HN2.out]; omega)
      obtain ⟨la, lb, hok, hrg⟩ := hca j (by rw [HN2.out]; exact hlt)
      have HPN := hide (fun (h : j < p) => posL_not (l := l2) (nm := nm) (i := j) (by rw [HN2.out]; exact hlt) (by rw [HP.out]; exact h))
      have HPA := hide (fun (h : j = p) => show (l2[j]'(by rw [HN2.out]; exact hlt)).name = nm by
       have e : j = posL l2 nm := h.trans HP.out.symm
       have hp : posL l2 nm < l2.length := by rw [← e, HN2.out]; exact hlt
       have h2 := posL_at hp
       simp only [← e] at h2
       exact h2)
      obtain ⟨q, HQ⟩ : ∃ q, Hid (l2[j]'(by rw [HN2.out]; exact hlt) = q) := ⟨_, hide rfl⟩
      rw [HQ.out] at hok hrg HPN HPA
      have HQB := hide hok.nameB
      have hbW : b < wr.heap.size := by omega
      have hgW : g5 < wr.heap.size := by have := H5.out.lt; omega
      have HNX := hide (show wr.cell? ⟨b, o + j * 108, none⟩ = some (.string (strOfNums q.name)) from (HBr.out.cell (p := ⟨b, o + j * 108, none⟩) (by show b < _; omega)).trans (by have := hrg 0 _ ent_name; rwa [Nat.add_zero] at this))
      have HNE := hide (show wr.cell? ⟨g5, 0, none⟩ = some (.string (strOfNums nm)) by rw [(H5.out.below HBr.out H5.out.lt).cell]; exact HN0.out)
      clear hok hrg hca
      obtain ⟨at_, HAT⟩ : ∃ k, Hid (atN p j = k) := ⟨_, hide rfl⟩
      have hat : -1 ≤ at_ ∧ at_ ≤ 18 := by have := HAT.out; unfold atN at this; split at this <;> omega
      by_cases hpj : p < j
      · have HNEG := hide (show decide (at_ < 0) = false by rw [← HAT.out]; unfold atN; rw [if_pos hpj]; exact decide_eq_false (by omega))
        have HNXT := hide (show atN p (j + 1) = at_ by rw [← HAT.out]; unfold atN; rw [if_pos hpj, if_pos (by omega)])
        rw [HAT.out]
        clear hpj HPN HPA
        go_upto_region 21 with fail
        try simp only [Act.put, s1_, s2_, s3_]
        refine wp_region_qw (Below wr.heap.size wr) (by kernel_rfl) (by kernel_rfl) (Below.refl _ _).drew ?_
        refine qw_val (v := .int .i64 at_) 117 rfl (by kernel_rfl) (fun w' hS => exec_move _ rfl (.int .i64 at_) rfl) ?_
        simp only [Act.put, s1_, s2_, s3_]
        refine qw_val (v := .bool false) 118 rfl (by kernel_rfl) (fun w' hS => exec_lss_i64 _ _ _ _ rfl at_ 0 rfl rfl _ HNEG.out) ?_
        simp only [Act.put, s1_, s2_, s3_]
        refine qw_val (v := .bool false) 119 rfl (by kernel_rfl) (fun w' hS => exec_move _ rfl (.bool false) rfl) ?_
        simp only [Act.put, s1_, s2_, s3_]
        refine qw_skip 120 rfl (by kernel_rfl) ?_
        simp only [Act.put, s1_, s2_, s3_]
        refine qw_skip 121 rfl (by kernel_rfl) ?_
        simp only [Act.put, s1_, s2_, s3_]
        refine qw_skip 122 rfl (by kernel_rfl) ?_
        simp only [Act.put, s1_, s2_, s3_]
        refine qw_skip 123 rfl (by kernel_rfl) ?_
        simp only [Act.put, s1_, s2_, s3_]
        refine qw_skip 124 rfl (by kernel_rfl) ?_
        simp only [Act.put, s1_, s2_, s3_]
        refine qw_skip 125 rfl (by kernel_rfl) ?_
        simp only [Act.put, s1_, s2_, s3_]
        refine qw_skip 126 rfl (by kernel_rfl) ?_
        simp only [Act.put, s1_, s2_, s3_]
        refine qw_skip 127 rfl (by kernel_rfl) ?_
        simp only [Act.put, s1_, s2_, s3_]
        refine qw_val (v := .bool false) 128 rfl (by kernel_rfl) (fun w' hS => exec_pickG _ _ _ rfl false rfl _ rfl) ?_
        simp only [Act.put, s1_, s2_, s3_]
        refine qw_nil ?_
        intro w21 hS
        have hS21 := HBr.out.trans (hS.mono hzr)
        clear hS
        go_wp2_with fail
        go_roundw
        case measure => simp [intOf]; omega
        case rel => exact ⟨j + 1, by go_num, by omega, by rw [HNXT.out], hS21⟩
      · have HNEG := hide (show decide (at_ < 0) = true by rw [← HAT.out]; unfold atN; rw [if_neg hpj]; rfl)
        rw [HAT.out]
        by_cases hje : j = p
        · have HEQN := hide (show decide (q.name = nm) = true from decide_eq_true (HPA.out hje))
          have HNXT := hide (show atN p (j + 1) = (j : Int) by unfold atN; rw [if_pos (by omega), hje])
          clear hpj hje HPN HPA
          go_upto_region 21 with fail
          try simp only [Act.put, s1_, s2_, s3_]
          refine wp_region_qw (Below wr.heap.size wr) (by kernel_rfl) (by kernel_rfl) (Below.refl _ _).drew ?_
          refine qw_val (v := .int .i64 at_) 117 rfl (by kernel_rfl) (fun w' hS => exec_move _ rfl (.int .i64 at_) rfl) ?_
          simp only [Act.put, s1_, s2_, s3_]
          refine qw_val (v := .bool true) 118 rfl (by kernel_rfl) (fun w' hS => exec_lss_i64 _ _ _ _ rfl at_ 0 rfl rfl _ HNEG.out) ?_
          simp only [Act.put, s1_, s2_, s3_]
          refine qw_val (v := .bool true) 119 rfl (by kernel_rfl) (fun w' hS => exec_move _ rfl (.bool true) rfl) ?_
          simp only [Act.put, s1_, s2_, s3_]
          refine qw_val (v := .slice (some ⟨b, o, none⟩) n2 c0) 120 rfl (by kernel_rfl) (fun w' hS => exec_move _ rfl (.slice (some ⟨b, o, none⟩) n2 c0) rfl) ?_
          simp only [Act.put, s1_, s2_, s3_]
          refine qw_val (v := .int .i64 ((j : Int))) 121 rfl (by kernel_rfl) (fun w' hS => exec_move _ rfl (.int .i64 ((j : Int))) rfl) ?_
          simp only [Act.put, s1_, s2_, s3_]
          refine qw_val (v := .pointer (some ⟨b, o + j * 108, none⟩)) 122 rfl (by kernel_rfl) (fun w' hS => exec_indexG _ _ _ rfl _ n2 c0 b o 108 j rfl rfl rfl (by omega) (by kernel_rfl) _ (by omega)) ?_
          simp only [Act.put, s1_, s2_, s3_]
          refine qw_val (v := .pointer (some ⟨b, o + j * 108, none⟩)) 123 rfl (by kernel_rfl) (fun w' hS => exec_fieldG _ _ 0 0 rfl b (o + j * 108) rfl (by kernel_rfl) _ (by first | rfl | omega)) ?_
          simp only [Act.put, s1_, s2_, s3_]
          refine qw_val (v := .string (strOfNums q.name)) 124 rfl (by kernel_rfl) (fun w' hS => exec_load_one _ _ rfl b (o + j * 108) rfl _ Tryd.underlying9 rfl _ ((hS.cell (p := ⟨b, o + j * 108, none⟩) hbW).trans HNX.out)) ?_
          simp only [Act.put, s1_, s2_, s3_]
          refine qw_val (v := .pointer (some ⟨g5, 0, none⟩)) 125 rfl (by kernel_rfl) (fun w' hS => exec_fieldG _ _ 0 0 rfl g5 0 rfl (by kernel_rfl) _ (by first | rfl | omega)) ?_
          simp only [Act.put, s1_, s2_, s3_]
          refine qw_val (v := .string (strOfNums nm)) 126 rfl (by kernel_rfl) (fun w' hS => exec_load_one _ _ rfl g5 0 rfl _ Tryd.underlying9 rfl _ ((hS.cell (p := ⟨g5, 0, none⟩) hgW).trans HNE.out)) ?_
          simp only [Act.put, s1_, s2_, s3_]
          refine qw_val (v := .bool true) 127 rfl (by kernel_rfl) (fun w' hS => exec_eql_name _ _ _ rfl q.name nm rfl rfl HQB.out HNMB.out _ HEQN.out) ?_
          simp only [Act.put, s1_, s2_, s3_]
          refine qw_val (v := .bool true) 128 rfl (by kernel_rfl) (fun w' hS => exec_pickG _ _ _ rfl true rfl _ rfl) ?_
          simp only [Act.put, s1_, s2_, s3_]
          refine qw_nil ?_
          intro w21 hS
          have hS21 := HBr.out.trans (hS.mono hzr)
          clear hS
          go_wp2_with fail
          go_roundw
          case measure => simp [intOf]; omega
          case rel => exact ⟨j + 1, by go_num, by omega, by rw [HNXT.out], hS21⟩
        · have HEQN := hide (show decide (q.name = nm) = false from decide_eq_false (HPN.out (by omega)))
          have HNXT := hide (show atN p (j + 1) = at_ by rw [← HAT.out]; unfold atN; rw [if_neg hpj, if_neg (by omega)])
          clear hpj hje HPN HPA
          go_upto_region 21 with fail
          try simp only [Act.put, s1_, s2_, s3_]
          refine wp_region_qw (Below wr.heap.size wr) (by kernel_rfl) (by kernel_rfl) (Below.refl _ _).drew ?_
          refine qw_val (v := .int .i64 at_) 117 rfl (by kernel_rfl) (fun w' hS => exec_move _ rfl (.int .i64 at_) rfl) ?_
          simp only [Act.put, s1_, s2_, s3_]
          refine qw_val (v := .bool true) 118 rfl (by kernel_rfl) (fun w' hS => exec_lss_i64 _ _ _ _ rfl at_ 0 rfl rfl _ HNEG.out) ?_
          simp only [Act.put, s1_, s2_, s3_]
          refine qw_val (v := .bool true) 119 rfl (by kernel_rfl) (fun w' hS => exec_move _ rfl (.bool true) rfl) ?_
          simp only [Act.put, s1_, s2_, s3_]
          refine qw_val (v := .slice (some ⟨b, o, none⟩) n2 c0) 120 rfl (by kernel_rfl) (fun w' hS => exec_move _ rfl (.slice (some ⟨b, o, none⟩) n2 c0) rfl) ?_
          simp only [Act.put, s1_, s2_, s3_]
          refine qw_val (v := .int .i64 ((j : Int))) 121 rfl (by kernel_rfl) (fun w' hS => exec_move _ rfl (.int .i64 ((j : Int))) rfl) ?_
          simp only [Act.put, s1_, s2_, s3_]
          refine qw_val (v := .pointer (some ⟨b, o + j * 108, none⟩)) 122 rfl (by kernel_rfl) (fun w' hS => exec_indexG _ _ _ rfl _ n2 c0 b o 108 j rfl rfl rfl (by omega) (by kernel_rfl) _ (by omega)) ?_
          simp only [Act.put, s1_, s2_, s3_]
          refine qw_val (v := .pointer (some ⟨b, o + j * 108, none⟩)) 123 rfl (by kernel_rfl) (fun w' hS => exec_fieldG _ _ 0 0 rfl b (o + j * 108) rfl (by kernel_rfl) _ (by first | rfl | omega)) ?_
          simp only [Act.put, s1_, s2_, s3_]
          refine qw_val (v := .string (strOfNums q.name)) 124 rfl (by kernel_rfl) (fun w' hS => exec_load_one _ _ rfl b (o + j * 108) rfl _ Tryd.underlying9 rfl _ ((hS.cell (p := ⟨b, o + j * 108, none⟩) hbW).trans HNX.out)) ?_
          simp only [Act.put, s1_, s2_, s3_]
          refine qw_val (v := .pointer (some ⟨g5, 0, none⟩)) 125 rfl (by kernel_rfl) (fun w' hS => exec_fieldG _ _ 0 0 rfl g5 0 rfl (by kernel_rfl) _ (by first | rfl | omega)) ?_
          simp only [Act.put, s1_, s2_, s3_]
          refine qw_val (v := .string (strOfNums nm)) 126 rfl (by kernel_rfl) (fun w' hS => exec_load_one _ _ rfl g5 0 rfl _ Tryd.underlying9 rfl _ ((hS.cell (p := ⟨g5, 0, none⟩) hgW).trans HNE.out)) ?_
          simp only [Act.put, s1_, s2_, s3_]
          refine qw_val (v := .bool false) 127 rfl (by kernel_rfl) (fun w' hS => exec_eql_name _ _ _ rfl q.name nm rfl rfl HQB.out HNMB.out _ HEQN.out) ?_
          simp only [Act.put, s1_, s2_, s3_]
          refine qw_val (v := .bool false) 128 rfl (by kernel_rfl) (fun w' hS => exec_pickG _ _ _ rfl true rfl _ rfl) ?_
          simp only [Act.put, s1_, s2_, s3_]
          refine qw_nil ?_
          intro w21 hS
          have hS21 := HBr.out.trans (hS.mono hzr)
          clear hS
          go_wp2_with fail
          go_roundw
          case measure => simp [intOf]; omega
          case rel => exact ⟨j + 1, by go_num, by omega, by rw [HNXT.out], hS21⟩
    · obtain rfl : j = n2 := by omega
      have hlt' : ¬ (j : Int) < (j : Int) := by omega
      have HATE := hide (show atN p j = -1 by unfold atN; rw [if_neg hpn])
      rw [HATE.out]
      have HBw := HBr.out
      have HBq := HBr.out
      replace HL := hide (HL.out.below HBw (by omega))
      replace HO := hide (HO.out.below HBw (by omega))
      replace HC := hide (HC.out.below HBw (by omega))
      replace HD := hide (HD.out.below HBw (by omega))
      replace H5 := hide (H5.out.below HBw H5.out.lt)
      replace H18 := hide (H18.out.below HBw H18.out.lt)
      replace HB := hide (HB.out.trans (HBw.mono HB.out.size))
      clear HBw HBr
      have HZE := hide (fun (W : World) => show EntOk W W.heap.size EntD.none_ (.slice none 0 0) (.slice none 0 0) from ⟨EntD.none_wf, Bs.nil_ _ _, Bs.nil_ _ _⟩)
      obtain ⟨gq, HGq⟩ : ∃ k, Hid (wr.heap.size = k) := ⟨_, hide rfl⟩
      have hgq : gq ≤ wr.heap.size ∧ wr.heap.size ≤ gq := by have := HGq.out; omega
      go_upto_region 24 with fail
      try simp only [Act.put, s1_, s2_, s3_]
      go_cut [152] from 131 to 152 (fun v152 wx => v152 = .bool false ∧ Below wr.heap.size wr wx)
      case first =>
       have HGE := hide (show decide ((0 : Int) ≤ (-1)) = false from by decide)
       rcases R with _ | _
       case false =>
        refine wp_region_held_drew (S := fun w' => Below wr.heap.size wr w') (by kernel_rfl) (Below.refl _ _).drew (fun hHeld => ?_)
        refine take_e 131 (i := 0) (v := .slice A0 j c0) rfl (by kernel_rfl) (Or.inl ⟨by kernel_rfl, fun w' hS => exec_move _ rfl (.slice A0 j c0) rfl⟩) hHeld ?_
        try simp only [Act.put, s1_, s2_, s3_]
        refine wpAnyH_ready (rs := [1]) (by kernel_rfl) (by simp) (AllReadyH.cons rfl (fun K hK => ?_) AllReadyH.nil)
        rw [if_pos (by kernel_rfl)]
        try go_simp
        refine (drightR_any (.slice A0 j c0) l2 _ ((HL.out.below hHeld (by omega)).more (by have := hHeld.size; omega)) HLT.out (by have := HLN.out; omega)).mono ?_
        rintro e w132 ⟨rfl, hb132⟩
        rw [HR.out]
        have HX := hide (hHeld.trans (hb132.mono hHeld.size))
        clear hb132
        refine hK.out _ _ HX.out (fun hHeld => ?_)
        clear HX hK K
        try simp only [Act.put, s1_, s2_, s3_]
        refine take_e 133 (i := 2) (v := .bool false) rfl (by kernel_rfl) (Or.inl ⟨by kernel_rfl, fun w' hS => exec_move _ rfl (.bool false) rfl⟩) hHeld ?_
        try simp only [Act.put, s1_, s2_, s3_]
        refine take_e 134 (i := 3) (v := undef) rfl (by kernel_rfl) (Or.inr ⟨by kernel_rfl, rfl⟩) hHeld ?_
        try simp only [Act.put, s1_, s2_, s3_]
        refine take_e 135 (i := 4) (v := undef) rfl (by kernel_rfl) (Or.inr ⟨by kernel_rfl, rfl⟩) hHeld ?_
        try simp only [Act.put, s1_, s2_, s3_]
        refine take_e 136 (i := 5) (v := undef) rfl (by kernel_rfl) (Or.inr ⟨by kernel_rfl, rfl⟩) hHeld ?_
        try simp only [Act.put, s1_, s2_, s3_]
        refine take_e 137 (i := 6) (v := undef) rfl (by kernel_rfl) (Or.inr ⟨by kernel_rfl, rfl⟩) hHeld ?_
        try simp only [Act.put, s1_, s2_, s3_]
        refine take_e 138 (i := 7) (v := undef) rfl (by kernel_rfl) (Or.inr ⟨by kernel_rfl, rfl⟩) hHeld ?_
        try simp only [Act.put, s1_, s2_, s3_]
        refine take_e 139 (i := 8) (v := undef) rfl (by kernel_rfl) (Or.inr ⟨by kernel_rfl, rfl⟩) hHeld ?_
        try simp only [Act.put, s1_, s2_, s3_]
        refine take_e 140 (i := 9) (v := undef) rfl (by kernel_rfl) (Or.inr ⟨by kernel_rfl, rfl⟩) hHeld ?_
        try simp only [Act.put, s1_, s2_, s3_]
        refine take_e 141 (i := 10) (v := undef) rfl (by kernel_rfl) (Or.inr ⟨by kernel_rfl, rfl⟩) hHeld ?_
        try simp only [Act.put, s1_, s2_, s3_]
        refine take_e 142 (i := 11) (v := undef) rfl (by kernel_rfl) (Or.inr ⟨by kernel_rfl, rfl⟩) hHeld ?_
        try simp only [Act.put, s1_, s2_, s3_]
        refine take_e 143 (i := 12) (v := undef) rfl (by kernel_rfl) (Or.inr ⟨by kernel_rfl, rfl⟩) hHeld ?_
        try simp only [Act.put, s1_, s2_, s3_]
        refine take_e 144 (i := 13) (v := undef) rfl (by kernel_rfl) (Or.inr ⟨by kernel_rfl, rfl⟩) hHeld ?_
        try simp only [Act.put, s1_, s2_, s3_]
        refine take_e 145 (i := 14) (v := undef) rfl (by kernel_rfl) (Or.inr ⟨by kernel_rfl, rfl⟩) hHeld ?_
        try simp only [Act.put, s1_, s2_, s3_]
        refine take_e 146 (i := 15) (v := undef) rfl (by kernel_rfl) (Or.inr ⟨by kernel_rfl, rfl⟩) hHeld ?_
        try simp only [Act.put, s1_, s2_, s3_]
        refine take_e 147 (i := 16) (v := undef) rfl (by kernel_rfl) (Or.inr ⟨by kernel_rfl, rfl⟩) hHeld ?_
        try simp only [Act.put, s1_, s2_, s3_]
        refine take_e 148 (i := 17) (v := undef) rfl (by kernel_rfl) (Or.inr ⟨by kernel_rfl, rfl⟩) hHeld ?_
        try simp only [Act.put, s1_, s2_, s3_]
        refine take_e 149 (i := 18) (v := undef) rfl (by kernel_rfl) (Or.inr ⟨by kernel_rfl, rfl⟩) hHeld ?_
        try simp only [Act.put, s1_, s2_, s3_]
        refine take_e 150 (i := 19) (v := undef) rfl (by kernel_rfl) (Or.inr ⟨by kernel_rfl, rfl⟩) hHeld ?_
        try simp only [Act.put, s1_, s2_, s3_]
        refine take_e 151 (i := 20) (v := undef) rfl (by kernel_rfl) (Or.inr ⟨by kernel_rfl, rfl⟩) hHeld ?_
        try simp only [Act.put, s1_, s2_, s3_]
        refine take_e 152 (i := 21) (v := .bool false) rfl (by kernel_rfl) (Or.inl ⟨by kernel_rfl, fun w' hS => exec_pickG _ _ _ rfl false rfl _ rfl⟩) hHeld ?_
        try simp only [Act.put, s1_, s2_, s3_]
        refine wpAnyH_done (by kernel_rfl) ?_ _
        go_wp2_with fail
        go_meet
        exact ⟨rfl, hHeld⟩
       refine wp_region_held_drew (S := fun w' => Below wr.heap.size wr w') (by kernel_rfl) (Below.refl _ _).drew (fun hHeld => ?_)
       refine take_e 131 (i := 0) (v := .slice A0 j c0) rfl (by kernel_rfl) (Or.inl ⟨by kernel_rfl, fun w' hS => exec_move _ rfl (.slice A0 j c0) rfl⟩) hHeld ?_
       try simp only [Act.put, s1_, s2_, s3_]
       refine wpAnyH_ready (rs := [1]) (by kernel_rfl) (by simp) (AllReadyH.cons rfl (fun K hK => ?_) AllReadyH.nil)
       rw [if_pos (by kernel_rfl)]
       try go_simp
       refine (drightR_any (.slice A0 j c0) l2 _ ((HL.out.below hHeld (by omega)).more (by have := hHeld.size; omega)) HLT.out (by have := HLN.out; omega)).mono ?_
       rintro e w132 ⟨rfl, hb132⟩
       rw [HR.out]
       have HX := hide (hHeld.trans (hb132.mono hHeld.size))
       clear hb132
       refine hK.out _ _ HX.out (fun hHeld => ?_)
       clear HX hK K
       try simp only [Act.put, s1_, s2_, s3_]
       refine take_e 133 (i := 2) (v := .bool true) rfl (by kernel_rfl) (Or.inl ⟨by kernel_rfl, fun w' hS => exec_move _ rfl (.bool true) rfl⟩) hHeld ?_
       try simp only [Act.put, s1_, s2_, s3_]
       refine take_e 134 (i := 3) (v := .bool false) rfl (by kernel_rfl) (Or.inl ⟨by kernel_rfl, fun w' hS => exec_move _ rfl (.bool false) rfl⟩) hHeld ?_
       try simp only [Act.put, s1_, s2_, s3_]
       refine take_e 135 (i := 4) (v := .int .i64 (-1)) rfl (by kernel_rfl) (Or.inl ⟨by kernel_rfl, fun w' hS => exec_move _ rfl (.int .i64 (-1)) rfl⟩) hHeld ?_
       try simp only [Act.put, s1_, s2_, s3_]
       refine take_e 136 (i := 5) (v := .bool false) rfl (by kernel_rfl) (Or.inl ⟨by kernel_rfl, fun w' hS => exec_geq_i64 _ _ _ _ rfl (-1) 0 rfl rfl _ HGE.out⟩) hHeld ?_
       try simp only [Act.put, s1_, s2_, s3_]
       refine take_e 137 (i := 6) (v := .bool false) rfl (by kernel_rfl) (Or.inl ⟨by kernel_rfl, fun w' hS => exec_neqB2 _ _ _ rfl false false rfl rfl _ rfl⟩) hHeld ?_
       try simp only [Act.put, s1_, s2_, s3_]
       refine take_e 138 (i := 7) (v := .bool false) rfl (by kernel_rfl) (Or.inl ⟨by kernel_rfl, fun w' hS => exec_move _ rfl (.bool false) rfl⟩) hHeld ?_
       try simp only [Act.put, s1_, s2_, s3_]
       refine take_e 139 (i := 8) (v := .bool false) rfl (by kernel_rfl) (Or.inl ⟨by kernel_rfl, fun w' hS => exec_move _ rfl (.bool false) rfl⟩) hHeld ?_
       try simp only [Act.put, s1_, s2_, s3_]
       refine take_e 140 (i := 9) (v := .bool false) rfl (by kernel_rfl) (Or.inl ⟨by kernel_rfl, fun w' hS => exec_move _ rfl (.bool false) rfl⟩) hHeld ?_
       try simp only [Act.put, s1_, s2_, s3_]
       refine take_e 141 (i := 10) (v := undef) rfl (by kernel_rfl) (Or.inr ⟨by kernel_rfl, rfl⟩) hHeld ?_
       try simp only [Act.put, s1_, s2_, s3_]
       refine take_e 142 (i := 11) (v := undef) rfl (by kernel_rfl) (Or.inr ⟨by kernel_rfl, rfl⟩) hHeld ?_
       try simp only [Act.put, s1_, s2_, s3_]
       refine take_e 143 (i := 12) (v := undef) rfl (by kernel_rfl) (Or.inr ⟨by kernel_rfl, rfl⟩) hHeld ?_
       try simp only [Act.put, s1_, s2_, s3_]
       refine take_e 144 (i := 13) (v := undef) rfl (by kernel_rfl) (Or.inr ⟨by kernel_rfl, rfl⟩) hHeld ?_
       try simp only [Act.put, s1_, s2_, s3_]
       refine take_e 145 (i := 14) (v := undef) rfl (by kernel_rfl) (Or.inr ⟨by kernel_rfl, rfl⟩) hHeld ?_
       try simp only [Act.put, s1_, s2_, s3_]
       refine take_e 146 (i := 15) (v := undef) rfl (by kernel_rfl) (Or.inr ⟨by kernel_rfl, rfl⟩) hHeld ?_
       try simp only [Act.put, s1_, s2_, s3_]
       refine take_e 147 (i := 16) (v := undef) rfl (by kernel_rfl) (Or.inr ⟨by kernel_rfl, rfl⟩) hHeld ?_
       try simp only [Act.put, s1_, s2_, s3_]
       refine take_e 148 (i := 17) (v := undef) rfl (by kernel_rfl) (Or.inr ⟨by kernel_rfl, rfl⟩) hHeld ?_
       try simp only [Act.put, s1_, s2_, s3_]
       refine take_e 149 (i := 18) (v := undef) rfl (by kernel_rfl) (Or.inr ⟨by kernel_rfl, rfl⟩) hHeld ?_
       try simp only [Act.put, s1_, s2_, s3_]
       refine take_e 150 (i := 19) (v := .bool false) rfl (by kernel_rfl) (Or.inl ⟨by kernel_rfl, fun w' hS => exec_pickG _ _ _ rfl false rfl _ rfl⟩) hHeld ?_
       try simp only [Act.put, s1_, s2_, s3_]
       refine take_e 151 (i := 20) (v := .bool false) rfl (by kernel_rfl) (Or.inl ⟨by kernel_rfl, fun w' hS => exec_pickG _ _ _ rfl false rfl _ rfl⟩) hHeld ?_
       try simp only [Act.put, s1_, s2_, s3_]
       refine take_e 152 (i := 21) (v := .bool false) rfl (by kernel_rfl) (Or.inl ⟨by kernel_rfl, fun w' hS => exec_pickG _ _ _ rfl true rfl _ rfl⟩) hHeld ?_
       try simp only [Act.put, s1_, s2_, s3_]
       refine wpAnyH_done (by kernel_rfl) ?_ _
       go_wp2_with fail
       go_meet
       exact ⟨rfl, hHeld⟩
      obtain ⟨rfl, hS⟩ := hcut
      replace HL := hide (HL.out.below hS (by omega))
      replace HO := hide (HO.out.below hS (by omega))
      replace HC := hide (HC.out.below hS (by omega))
      replace HD := hide (HD.out.below hS (by omega))
      replace HB := hide (HB.out.trans (hS.mono HB.out.size))
      have hzs := hS.size
      clear hS
      have HRQ := hide (show (RE == RE) = true by simp)
      go_wp2_with (first
       | go_skip
       | (refine wpList_val_ rfl (exec_eql_i64 _ _ _ _ rfl RE RE rfl rfl _ HRQ.out) ?_))
      refine (keep_ents v15 v16 RF RF wc wc.heap.size (Nat.le_refl _) (HC.out.more (by omega)) (HD.out.more (by omega))).mono ?_
      rintro e w30 ⟨rfl, hb30⟩
      rw [(entsEq_iff RF RF).2 rfl]
      replace HL := hide (HL.out.below hb30 (by omega))
      replace HO := hide (HO.out.below hb30 (by omega))
      replace HC := hide (HC.out.below hb30 (by omega))
      replace HD := hide (HD.out.below hb30 (by omega))
      replace HB := hide (HB.out.trans (hb30.mono HB.out.size))
      have hz30 := hb30.size
      clear hb30
      go_wp2_with (first
       | go_skip)
      refine (wakes23 w30 ((HT.out.below HB.out (Nat.le_refl _)).more HB.out.size)).mono ?_
      rintro e w31 ⟨rfl, hb31⟩
      replace HL := hide (HL.out.below hb31 (by omega))
      replace HO := hide (HO.out.below hb31 (by omega))
      replace HC := hide (HC.out.below hb31 (by omega))
      replace HD := hide (HD.out.below hb31 (by omega))
      replace HB := hide (HB.out.trans (hb31.mono HB.out.size))
      have hz31 := hb31.size
      clear hb31
      go_wp2_with go_skip
      go_ret
      exact ⟨rfl, HB.out⟩
theorem walk_ (w : World) (ht : Tab w w.heap.size) (v : Value) (l : List EntD) (hv : EntsB w w.heap.size v l) (hin : ∀ e ∈ l, e.In) (e : EntD) (u : Value × Value) (hei : e.In) (he : EntOk w w.heap.size e u.1 u.2) (right : Bool) (i : Int) (hi : In64 i) :
 Calls Tryd.prog 5 #[v, .agg (entC e u.1 u.2).toArray, .bool right, .int .i64 i] w fun e w' => e = .returned (.bool true) ∧ Below w.heap.size w w' := walk w ht v l hv hin e u.1 u.2 hei he right i hi
set_option maxRecDepth 100000 in
theorem lifted (os : Os) (started : os.Started) (H : Type) (enc : TypeId × Value → H) :
 ReturnsInHanded {} Tryd.checked os 5 .any (fun w args => (Rows.dirsSetsSpec.pre enc Tryd.prog Tryd.f5 [] false w args ∧ laidMetH Tryd.prog laidD w) ∧ sizedMet enc Tryd.prog Tryd.f5 (OpenSpec.ofChange Rows.dirsSetsSpec) false w args)
  (Rows.dirsSetsSpec.post enc Tryd.prog Tryd.f5 false true false false) := by
 refine returnsInHanded_of_change_and (C := Tryd.checked) (X := fun w _ => laidMetH Tryd.prog laidD w) (fun _ _ _ hh h => h.of_heap hh) own started (by kernel_rfl) Tryd.func5
  (ChangeSpec.witness_shaped (enc := enc) (C := Tryd.checked) (os := os) (X := fun w _ => laidMetH Tryd.prog laidD w) false (World.doorLaid Tryd.prog doorSteps os) #[.slice none 0 0, .agg (entC EntD.none_ (.slice none 0 0) (.slice none 0 0)).toArray, .bool false, .int .i64 0] 8 rfl (World.shaped_of_RefB (by kernel_rfl) (by kernel_rfl)) (by kernel_rfl) (by kernel_rfl) (by kernel_rfl) (door_met os _)) ?_
 intro W base args ds gs before hval0 hW _ _ hL _
 have hT := tab_of hL
 have hval : ∀ (j : Nat) t v, Tryd.f5.params[j]? = some t → args[j]? = some v → Value.okWide Tryd.prog W .any base t v := hval0
 have hW' := hW
 obtain ⟨p, q, hA0, hV, rfl, hfz, hnd⟩ := hW
 have hA : DataW.TrodAll enc Tryd.prog W 0 (fun _ => true) true Tryd.f5.params.toList args.toList ds p := hA0
 rw [Tryd.params5] at hA hval
 obtain ⟨v0, vs0, d0, ds0, p0, q0, hargs, rfl, rfl, h0, r0⟩ := trodAll_cons hA
 obtain ⟨v1, vs1, d1, ds1, p1, q1, rfl, rfl, rfl, h1, r1⟩ := trodAll_cons r0
 obtain ⟨v2, vs2, d2, ds2, p2, q2, rfl, rfl, rfl, h2, r2⟩ := trodAll_cons r1
 obtain ⟨v3, vs3, d3, ds3, p3, q3, rfl, rfl, rfl, h3, r3⟩ := trodAll_cons r2
 obtain ⟨rfl, rfl, rfl⟩ := trodAll_nil r3
 obtain rfl : args = #[v0, v1, v2, v3] := by cases args; simp_all
 obtain ⟨rfl, rfl⟩ := trodVars_none hV
 have k0 := h0
 have lt0 : ∀ x ∈ p0, x.block < W.heap.size := by obtain ⟨m, hm⟩ := k0; exact DataW.trod_lt m _ _ _ hm
 obtain ⟨z0, w0, b0⟩ := read_ents (hval 0 29 v0 rfl rfl) h0
 have k1 := h1
 have lt1 : ∀ x ∈ p1, x.block < W.heap.size := by obtain ⟨m, hm⟩ := k1; exact DataW.trod_lt m _ _ _ hm
 obtain ⟨z1, l1, rfl, w1, b1⟩ := read_ent (hval 1 45 v1 rfl rfl) h1
 obtain ⟨a2, rfl, rfl, rfl⟩ := open_bool Tryd.underlying4 (hval 2 4 v2 rfl rfl) h2
 obtain ⟨a3, rfl, rfl, rfl, wf3⟩ := open_int Tryd.underlying3 (hval 3 3 v3 rfl rfl) h3
 clear hA0 hval0
 refine (walk_ W hT v0 z0 w0 b0 z1 l1 w1 b1 a2 a3 (in64_wf wf3)).mono fun e W' ⟨he, bel⟩ => ?_
 subst he
 exact ⟨_, rfl, _, _, _, [], _, [], hW', trodAll_mk1 (shut_bool Tryd.underlying4 _), (trodAll_cons_mk (Below.trod laidOut (by kernel_rfl) (of_decide_eq_true (by kernel_rfl)) k0 bel lt0) (trodAll_cons_mk (Below.trod laidOut (by kernel_rfl) (of_decide_eq_true (by kernel_rfl)) k1 bel lt1) (trodAll_cons_mk (shut_bool Tryd.underlying4 _) (trodAll_cons_mk (shut_int Tryd.underlying3 wf3) trodAll_mk0)))), rfl, bel.frame _, fun h => by cases h⟩

theorem over : Rows.dirsSetsRow.holds Tryd.pinned (OpenSpec.ofChange Rows.dirsSetsSpec) :=
 OpenClaim.holds_of_wide 5 Tryd.f5 rfl rfl rfl rfl rfl rfl rfl ⟨rfl, rfl, rfl, rfl, rfl⟩ rfl rfl rfl rfl rfl (by kernel_rfl) Tryd.func5 (by kernel_rfl)
  (of_decide_eq_true (by kernel_rfl)) (by unfold Func.isWrapper; rw [if_neg (of_decide_eq_false (by kernel_rfl))]; exact ⟨rfl, rfl⟩)
  (fun os started H enc _ => lifted os started H enc)

theorem proved : Rows.DirsSetsCardSaid :=
 Claim7.holds_tied_plain_at .later [] Rows.dirsSetsCard.laidKinds true Rows.dirsSetsCard.stood.harness Rows.dirsSetsCard.stood.looks
  over (fun _ h => by cases h) (by kernel_rfl) (fun _ h => by cases h) dirsSets_row_tie rfl ⟨rfl, rfl⟩ (by kernel_rfl) rfl
  (fun f fn hf hfn => by
   obtain rfl : f = 5 := Option.some.inj ((show Tryd.prog.funcNamed "aumbry/aumbrylaw23.DirsSets" = some 5 by kernel_rfl).symm.trans hf) |>.symm
   obtain rfl : fn = Tryd.f5 := (Option.some.inj (Tryd.func5.symm.trans hfn)).symm
   exact ⟨by kernel_rfl, fun j t ht => by
    have ht' : Tryd.f5.params[j]? = some t := ht
    rw [Tryd.params5] at ht'
    have hm : t ∈ [29, 45, 4, 3] := by simpa using Array.mem_of_getElem? ht'
    have hall : ([29, 45, 4, 3].all fun u => !Tryd.prog.wantsStandIn u) = true := by kernel_rfl
    exact (show Tryd.prog.wantsStandIn t = false by simpa using List.all_eq_true.1 hall t hm)⟩)
  (by kernel_rfl)
end Go.Proofs.YthdjgebbjogmiaaDoor.LawDirsSets
