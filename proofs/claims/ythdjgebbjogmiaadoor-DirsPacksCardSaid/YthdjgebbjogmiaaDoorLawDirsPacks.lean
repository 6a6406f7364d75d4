/-
DirsPacks holds: a directory's bytes, or why there are none, as the document says. Conditions: none but the row's own.
-/
import Derived.Test.YthdjgebbjogmiaaDoorJoin21
import Derived.Test.YthdjgebbjogmiaaDoorPackR
import Derived.Test.YthdjgebbjogmiaaDoorEntCut
import Derived.Test.YthdjgebbjogmiaaDoorEntRight
import Derived.Test.YthdjgebbjogmiaaDoorJoin28
import Derived.Test.YthdjgebbjogmiaaDoorJoin27
import Derived.Test.YthdjgebbjogmiaaDoorTied
namespace Go.Proofs.YthdjgebbjogmiaaDoor.LawDirsPacks
open Go Go.RowKit Go.ChangeShapes Go.WideShapes Go.ChangeAt
set_option linter.unusedVariables false
set_option linter.unusedSimpArgs false
set_option maxRecDepth 100000
theorem cutE_in {e : EntD} (h : e.In) : (cutE e).In :=
 ⟨fun x hx => h.nameB x (List.mem_of_mem_take hx), ⟨h.r.toWf.cut 70, h.r.kindI, h.r.KI, h.r.NI, h.r.SI⟩, ⟨h.w_.toWf.cut 70, h.w_.kindI, h.w_.KI, h.w_.NI, h.w_.SI⟩, by show (e.name.take 70).length ≤ _; have := List.length_take_le 70 e.name; have := h.nameL; unfold maxLen; omega⟩
theorem cutEnts_in {l : List EntD} (h : ∀ e ∈ l, e.In) : ∀ e ∈ cutEnts l, e.In := fun e he => by
 obtain ⟨x, hx, rfl⟩ := List.mem_map.1 he
 exact cutE_in (h x (List.mem_of_mem_take hx))
theorem bs_empty {w : World} {B : Nat} {v : Value} (h : Bs w B v []) : ∀ W B', Bs W B' v [] := fun W B' => by
 obtain ⟨A, c, rfl, h1, h2, h3⟩ := h.open_
 exact ⟨A, c, rfl, h1, h2, rfl, fun h => absurd h (by simp)⟩
theorem dirF_slot {k f : List Int} (h : (slotF k f).Wf) : (dirF (slotF k f)).Wf ∧ (dirF (slotF k f)).lit = [] := by
 unfold dirF
 split
 · exact ⟨⟨h.keyL, h.keyB, h.fpL, h.fpB, h.litB⟩, rfl⟩
 · exact ⟨CapD.none_wf, rfl⟩
set_option maxHeartbeats 16000000 in
theorem walk (w : World) (ht : Tab w w.heap.size) (c : CapD) (lit : Value) (hc : c.In) (hl : Bs w w.heap.size lit c.lit) (dir : Bool) (v : Value) (l : List EntD) (hv : EntsB w w.heap.size v l) (hin : ∀ e ∈ l, e.In) (right : Bool) :
 Calls Tryd.prog 3 #[capV c lit, .bool dir, v, .bool right] w fun e w' => e = .returned (.bool true) ∧ Below w.heap.size w w' := by
 have HT := hide ht
 have HC := hide hc.toWf
 have HL := hide hl
 have hl1 := bs_one_ hl
 have HV := hide hv
 have HCI := hide (cutEnts_in hin)
 have HCWF := hide (cutEnts_wf (fun e he => (hin e he).wf))
 obtain ⟨g4, HG4⟩ : ∃ k, Hid (w.heap.size = k) := ⟨_, hide rfl⟩
 have hg4 : w.heap.size ≤ g4 ∧ g4 ≤ w.heap.size := by have := HG4.out; omega
 clear hc hl hv hin ht
 go_enter Tryd.func3, Tryd.ntmps3
 go_wp2_with (first
  | (refine wpList_cap_new (c := c) (lit := lit) _ rfl rfl rfl HC.out.keyL HC.out.fpL hl1 ?_; intro w1 hb1 hw1 hs1; rw [HG4.out] at hb1; try rw [HG4.out]; have H4 := hide hb1; have HB := hide hw1; clear hb1 hw1 hs1)
  | (refine wpList_cap_lit _ rfl rfl rfl H4.out ?_))
 refine (cut_bytes lit c.lit 70 w1 w.heap.size (HL.out.below HB.out (Nat.le_refl _)) (by omega) (by omega)).mono ?_
 rintro e w1 ⟨l2, rfl, hl2, rfl⟩
 have HL2 := hide (show Bs w1 w.heap.size l2 (c.lit.take 70) from hl2)
 have HC2 := hide (HC.out.cut 70)
 obtain ⟨c2, HCE⟩ : ∃ x, Hid (({ c with lit := c.lit.take 70 } : CapD) = x) := ⟨_, hide rfl⟩
 have HCL := hide (show c.lit.take 70 = c2.lit by rw [← HCE.out])
 rw [HCE.out] at HC2
 rw [HCL.out] at HL2
 clear hl2
 rcases dir with _ | _
 case true =>
  go_wp2_with (first
   | go_skip
   | (refine wpList_cap_putLit _ _ rfl rfl rfl H4.out l2 rfl (bs_one_ HL2.out) (c.lit.take 70) ?_; intro wl hbl hgl hsl; rw [HCE.out] at hbl; have hbt := (Below.refl w.heap.size _).grown hgl HB.out.size (by intro k hk; injection hk; omega); replace HL2 := hide (HL2.out.below hbt (Nat.le_refl _)); replace H4 := hide hbl; replace HB := hide (HB.out.trans hbt); clear hbt hbl hgl hsl)
   | (refine wpList_cap_key _ rfl rfl rfl H4.out ?_)
   | (refine wpList_cap_fp _ rfl rfl rfl H4.out ?_))
  have HK2 := hide (show c2.key = c.key ∧ c2.fp = c.fp by rw [← HCE.out]; exact ⟨rfl, rfl⟩)
  rw [HK2.out.1, HK2.out.2]
  refine (Slot_ref c.key c.fp _ HC.out.keyL HC.out.keyB HC.out.fpL).mono ?_
  rintro e w3 ⟨rfl, hb3⟩
  replace H4 := hide (H4.out.below hb3 H4.out.lt)
  replace HB := hide (HB.out.trans (hb3.mono HB.out.size))
  clear hb3 HL2
  have HSW := hide (slotF_wf (k := c.key) HC.out.fpL HC.out.fpB)
  go_wp2_with fail
  refine (Dir_ref (slotF c.key c.fp) (.slice none 0 0) _ HSW.out (Bs.nil_ _ _) (by show ([] : List Int).length ≤ _; simp)).mono ?_
  rintro e w4 ⟨l3, rfl, hl3, hb4⟩
  obtain ⟨CD, HCDE⟩ : ∃ x, Hid (dirF (slotF c.key c.fp) = x) := ⟨_, hide rfl⟩
  have HCD := hide (show CD.Wf ∧ CD.lit = [] by rw [← HCDE.out]; exact dirF_slot HSW.out)
  rw [HCDE.out] at hl3 ⊢
  rw [HCD.out.2] at hl3
  have HL3F := hide (fun (W : World) => show Bs W W.heap.size l3 CD.lit by rw [HCD.out.2]; exact bs_empty hl3 _ _)
  have HL31 := hide (bs_one_ hl3)
  replace H4 := hide (H4.out.below hb4 H4.out.lt)
  replace HB := hide (HB.out.trans (hb4.mono HB.out.size))
  clear hl3 hb4
  go_wp2_with (first
   | go_skip
   | (refine wpList_cap_putAll _ _ rfl rfl rfl H4.out CD l3 rfl HCD.out.1.keyL HCD.out.1.fpL HL31.out ?_; intro wd hbd hgd hsd; have hbt := (Below.refl w.heap.size _).grown hgd HB.out.size (by intro k hk; injection hk; omega); replace H4 := hide hbd; replace HB := hide (HB.out.trans hbt); clear hbt hbd hgd hsd))
  refine (entcut_any v l _ ((HV.out.below HB.out (Nat.le_refl _)).more HB.out.size)).mono ?_
  rintro e w5 ⟨v5, rfl, ho5, hb5⟩
  have HE5 := hide (ho5.reads hb5.size)
  replace H4 := hide (H4.out.below hb5 H4.out.lt)
  replace HB := hide (HB.out.trans (hb5.mono HB.out.size))
  clear ho5 hb5
  rcases right with _ | _
  case true =>
   go_wp2_with fail
   refine (entright_any v5 (cutEnts l) _ HE5.out HCI.out).mono ?_
   rintro e w6 ⟨v6, rfl, ho6, hb6⟩
   have HE6 := hide (ho6.reads hb6.size)
   replace H4 := hide (H4.out.below hb6 H4.out.lt)
   replace HB := hide (HB.out.trans (hb6.mono HB.out.size))
   clear ho6 hb6 HE5
   obtain ⟨l6, HL6⟩ : ∃ x, Hid (rightsL (cutEnts l) = x) := ⟨_, hide rfl⟩
   have HLT := hide (show ∀ e ∈ l6, e.read.lit.length ≤ 1000000 ∧ e.write.lit.length ≤ 1000000 by rw [← HL6.out]; exact rights_lit)
   have HLN := hide (show l6.length ≤ 1000000 by rw [← HL6.out]; unfold rightsL; rw [rightsN_len]; omega)
   rw [HL6.out] at HE6
   clear HL6
   obtain ⟨PE, HPE⟩ : ∃ x, Hid (packE CD l6 = x) := ⟨_, hide rfl⟩
   obtain ⟨PR, HPR⟩ : ∃ x, Hid (packR CD l6 = x) := ⟨_, hide rfl⟩
   have HPA := hide (Pack_any CD l3 v6 l6 w6 HCD.out.1 (HL3F.out w6) HE6.out HLT.out HLN.out ((HT.out.below HB.out (Nat.le_refl _)).more HB.out.size))
   have HPB := hide (fun (w' : World) (h : Below w6.heap.size w6 w') => PackDir_ref CD l3 v6 l6 w' HCD.out.1 (((HL3F.out w6).below h (Nat.le_refl _)).more h.size) ((HE6.out.below h (Nat.le_refl _)).more h.size) HLT.out HLN.out)
   rw [HPE.out, HPR.out] at HPA HPB
   go_wp2_with (first
    | (refine wpList_cap_all _ rfl rfl rfl H4.out ?_))
   refine HPA.out.mono ?_
   rintro e w7 ⟨v7, rfl, ho7, hb7⟩
   have HV7 := hide ho7.reads
   have HX := hide hb7
   replace H4 := hide (H4.out.below hb7 H4.out.lt)
   replace HB := hide (HB.out.trans (hb7.mono HB.out.size))
   clear ho7 hb7 HPA
   go_wp2_with (first
    | (refine wpList_cap_all _ rfl rfl rfl H4.out ?_))
   refine (HPB.out w7 HX.out).mono ?_
   rintro e w8 ⟨v8, rfl, ho8, hb8⟩
   have HV8 := hide ho8.reads
   replace HV7 := hide ((HV7.out.below hb8 (Nat.le_refl _)).more hb8.size)
   replace HB := hide (HB.out.trans (hb8.mono HB.out.size))
   clear ho8 hb8 HPB HX H4
   have HEQ := hide (show (PE == PE) = true by simp)
   go_wp2_with go_skip
   refine (same_bytes v7 v8 PR PR w8 w8.heap.size HV7.out HV8.out (Nat.le_refl _)).mono ?_
   rintro e w9 ⟨rfl, hb9⟩
   rw [decide_eq_true rfl]
   replace HB := hide (HB.out.trans (hb9.mono HB.out.size))
   clear hb9
   go_wp2_with go_skip
   refine (wakes23 w9 ((HT.out.below HB.out (Nat.le_refl _)).more HB.out.size)).mono ?_
   rintro e w10 ⟨rfl, hb10⟩
   replace HB := hide (HB.out.trans (hb10.mono HB.out.size))
   clear hb10
   go_wp2_with go_skip
   go_ret
   exact ⟨rfl, HB.out⟩
  obtain ⟨l6, HL6⟩ : ∃ x, Hid (cutEnts l = x) := ⟨_, hide rfl⟩
  have HLT := hide (show ∀ e ∈ l6, e.read.lit.length ≤ 1000000 ∧ e.write.lit.length ≤ 1000000 by rw [← HL6.out]; exact cutEnts_lit l)
  have HLN := hide (show l6.length ≤ 1000000 by rw [← HL6.out]; have := cutEnts_len l; omega)
  rw [HL6.out] at HE5
  clear HL6
  obtain ⟨PE, HPE⟩ : ∃ x, Hid (packE CD l6 = x) := ⟨_, hide rfl⟩
  obtain ⟨PR, HPR⟩ : ∃ x, Hid (packR CD l6 = x) := ⟨_, hide rfl⟩
  have HPA := hide (Pack_any CD l3 v5 l6 w5 HCD.out.1 (HL3F.out w5) HE5.out HLT.out HLN.out ((HT.out.below HB.out (Nat.le_refl _)).more HB.out.size))
  have HPB := hide (fun (w' : World) (h : Below w5.heap.size w5 w') => PackDir_ref CD l3 v5 l6 w' HCD.out.1 (((HL3F.out w5).below h (Nat.le_refl _)).more h.size) ((HE5.out.below h (Nat.le_refl _)).more h.size) HLT.out HLN.out)
  rw [HPE.out, HPR.out] at HPA HPB
  go_wp2_with (first
   | (refine wpList_cap_all _ rfl rfl rfl H4.out ?_))
  refine HPA.out.mono ?_
  rintro e w7 ⟨v7, rfl, ho7, hb7⟩
  have HV7 := hide ho7.reads
  have HX := hide hb7
  replace H4 := hide (H4.out.below hb7 H4.out.lt)
  replace HB := hide (HB.out.trans (hb7.mono HB.out.size))
  clear ho7 hb7 HPA
  go_wp2_with (first
   | (refine wpList_cap_all _ rfl rfl rfl H4.out ?_))
  refine (HPB.out w7 HX.out).mono ?_
  rintro e w8 ⟨v8, rfl, ho8, hb8⟩
  have HV8 := hide ho8.reads
  replace HV7 := hide ((HV7.out.below hb8 (Nat.le_refl _)).more hb8.size)
  replace HB := hide (HB.out.trans (hb8.mono HB.out.size))
  clear ho8 hb8 HPB HX H4
  have HEQ := hide (show (PE == PE) = true by simp)
  go_wp2_with go_skip
  refine (same_bytes v7 v8 PR PR w8 w8.heap.size HV7.out HV8.out (Nat.le_refl _)).mono ?_
  rintro e w9 ⟨rfl, hb9⟩
  rw [decide_eq_true rfl]
  replace HB := hide (HB.out.trans (hb9.mono HB.out.size))
  clear hb9
  go_wp2_with go_skip
  refine (wakes23 w9 ((HT.out.below HB.out (Nat.le_refl _)).more HB.out.size)).mono ?_
  rintro e w10 ⟨rfl, hb10⟩
  replace HB := hide (HB.out.trans (hb10.mono HB.out.size))
  clear hb10
  go_wp2_with go_skip
  go_ret
  exact ⟨rfl, HB.out⟩
 go_wp2_with (first
  | go_skip
  | (refine wpList_cap_putLit _ _ rfl rfl rfl H4.out l2 rfl (bs_one_ HL2.out) (c.lit.take 70) ?_; intro wl hbl hgl hsl; rw [HCE.out] at hbl; have hbt := (Below.refl w.heap.size _).grown hgl HB.out.size (by intro k hk; injection hk; omega); replace HL2 := hide (HL2.out.below hbt (Nat.le_refl _)); replace H4 := hide hbl; replace HB := hide (HB.out.trans hbt); clear hbt hbl hgl hsl))
 refine (entcut_any v l _ ((HV.out.below HB.out (Nat.le_refl _)).more HB.out.size)).mono ?_
 rintro e w5 ⟨v5, rfl, ho5, hb5⟩
 have HE5 := hide (ho5.reads hb5.size)
 replace H4 := hide (H4.out.below hb5 H4.out.lt)
 replace HL2 := hide (HL2.out.below hb5 HB.out.size)
 replace HB := hide (HB.out.trans (hb5.mono HB.out.size))
 clear ho5 hb5
 rcases right with _ | _
 case true =>
  go_wp2_with fail
  refine (entright_any v5 (cutEnts l) _ HE5.out HCI.out).mono ?_
  rintro e w6 ⟨v6, rfl, ho6, hb6⟩
  have HE6 := hide (ho6.reads hb6.size)
  replace H4 := hide (H4.out.below hb6 H4.out.lt)
  replace HL2 := hide (HL2.out.below hb6 HB.out.size)
  replace HB := hide (HB.out.trans (hb6.mono HB.out.size))
  clear ho6 hb6 HE5
  obtain ⟨l6, HL6⟩ : ∃ x, Hid (rightsL (cutEnts l) = x) := ⟨_, hide rfl⟩
  have HLT := hide (show ∀ e ∈ l6, e.read.lit.length ≤ 1000000 ∧ e.write.lit.length ≤ 1000000 by rw [← HL6.out]; exact rights_lit)
  have HLN := hide (show l6.length ≤ 1000000 by rw [← HL6.out]; unfold rightsL; rw [rightsN_len]; omega)
  rw [HL6.out] at HE6
  clear HL6
  obtain ⟨PE, HPE⟩ : ∃ x, Hid (packE c2 l6 = x) := ⟨_, hide rfl⟩
  obtain ⟨PR, HPR⟩ : ∃ x, Hid (packR c2 l6 = x) := ⟨_, hide rfl⟩
  have HPA := hide (Pack_any c2 l2 v6 l6 w6 HC2.out (HL2.out.more HB.out.size) HE6.out HLT.out HLN.out ((HT.out.below HB.out (Nat.le_refl _)).more HB.out.size))
  have HPB := hide (fun (w' : World) (h : Below w6.heap.size w6 w') => PackDir_ref c2 l2 v6 l6 w' HC2.out (((HL2.out.more HB.out.size).below h (Nat.le_refl _)).more h.size) ((HE6.out.below h (Nat.le_refl _)).more h.size) HLT.out HLN.out)
  rw [HPE.out, HPR.out] at HPA HPB
  go_wp2_with (first
   | (refine wpList_cap_all _ rfl rfl rfl H4.out ?_))
  refine HPA.out.mono ?_
  rintro e w7 ⟨v7, rfl, ho7, hb7⟩
  have HV7 := hide ho7.reads
  have HX := hide hb7
  replace H4 := hide (H4.out.below hb7 H4.out.lt)
  replace HB := hide (HB.out.trans (hb7.mono HB.out.size))
  clear ho7 hb7 HPA
  go_wp2_with (first
   | (refine wpList_cap_all _ rfl rfl rfl H4.out ?_))
  refine (HPB.out w7 HX.out).mono ?_
  rintro e w8 ⟨v8, rfl, ho8, hb8⟩
  have HV8 := hide ho8.reads
  replace HV7 := hide ((HV7.out.below hb8 (Nat.le_refl _)).more hb8.size)
  replace HB := hide (HB.out.trans (hb8.mono HB.out.size))
  clear ho8 hb8 HPB HX H4
  have HEQ := hide (show (PE == PE) = true by simp)
  go_wp2_with go_skip
  refine (same_bytes v7 v8 PR PR w8 w8.heap.size HV7.out HV8.out (Nat.le_refl _)).mono ?_
  rintro e w9 ⟨rfl, hb9⟩
  rw [decide_eq_true rfl]
  replace HB := hide (HB.out.trans (hb9.mono HB.out.size))
  clear hb9
  go_wp2_with go_skip
  refine (wakes23 w9 ((HT.out.below HB.out (Nat.le_refl _)).more HB.out.size)).mono ?_
  rintro e w10 ⟨rfl, hb10⟩
  replace HB := hide (HB.out.trans (hb10.mono HB.out.size))
  clear hb10
  go_wp2_with go_skip
  go_ret
  exact ⟨rfl, HB.out⟩
 obtain ⟨l6, HL6⟩ : ∃ x, Hid (cutEnts l = x) := ⟨_, hide rfl⟩
 have HLT := hide (show ∀ e ∈ l6, e.read.lit.length ≤ 1000000 ∧ e.write.lit.length ≤ 1000000 by rw [← HL6.out]; exact cutEnts_lit l)
 have HLN := hide (show l6.length ≤ 1000000 by rw [← HL6.out]; have := cutEnts_len l; omega)
 rw [HL6.out] at HE5
 clear HL6
 obtain ⟨PE, HPE⟩ : ∃ x, Hid (packE c2 l6 = x) := ⟨_, hide rfl⟩
 obtain ⟨PR, HPR⟩ : ∃ x, Hid (packR c2 l6 = x) := ⟨_, hide rfl⟩
 have HPA := hide (Pack_any c2 l2 v5 l6 w5 HC2.out (HL2.out.more HB.out.size) HE5.out HLT.out HLN.out ((HT.out.below HB.out (Nat.le_refl _)).more HB.out.size))
 have HPB := hide (fun (w' : World) (h : Below w5.heap.size w5 w') => PackDir_ref c2 l2 v5 l6 w' HC2.out (((HL2.out.more HB.out.size).below h (Nat.le_refl _)).more h.size) ((HE5.out.below h (Nat.le_refl _)).more h.size) HLT.out HLN.out)
 rw [HPE.out, HPR.out] at HPA HPB
 go_wp2_with (first
  | (refine wpList_cap_all _ rfl rfl rfl H4.out ?_))
 refine HPA.out.mono ?_
 rintro e w7 ⟨v7, rfl, ho7, hb7⟩
 have HV7 := hide ho7.reads
 have HX := hide hb7
 replace H4 := hide (H4.out.below hb7 H4.out.lt)
 replace HB := hide (HB.out.trans (hb7.mono HB.out.size))
 clear ho7 hb7 HPA
 go_wp2_with (first
  | (refine wpList_cap_all _ rfl rfl rfl H4.out ?_))
 refine (HPB.out w7 HX.out).mono ?_
 rintro e w8 ⟨v8, rfl, ho8, hb8⟩
 have HV8 := hide ho8.reads
 replace HV7 := hide ((HV7.out.below hb8 (Nat.le_refl _)).more hb8.size)
 replace HB := hide (HB.out.trans (hb8.mono HB.out.size))
 clear ho8 hb8 HPB HX H4
 have HEQ := hide (show (PE == PE) = true by simp)
 go_wp2_with go_skip
 refine (same_bytes v7 v8 PR PR w8 w8.heap.size HV7.out HV8.out (Nat.le_refl _)).mono ?_
 rintro e w9 ⟨rfl, hb9⟩
 rw [decide_eq_true rfl]
 replace HB := hide (HB.out.trans (hb9.mono HB.out.size))
 clear hb9
 go_wp2_with go_skip
 refine (wakes23 w9 ((HT.out.below HB.out (Nat.le_refl _)).more HB.out.size)).mono ?_
 rintro e w10 ⟨rfl, hb10⟩
 replace HB := hide (HB.out.trans (hb10.mono HB.out.size))
 clear hb10
 go_wp2_with go_skip
 go_ret
 exact ⟨rfl, HB.out⟩
set_option maxRecDepth 100000 in
theorem lifted (os : Os) (started : os.Started) (H : Type) (enc : TypeId × Value → H) :
 ReturnsInHanded {} Tryd.checked os 3 .any (fun w args => (Rows.dirsPacksSpec.pre enc Tryd.prog Tryd.f3 [] false w args ∧ laidMetH Tryd.prog laidD w) ∧ sizedMet enc Tryd.prog Tryd.f3 (OpenSpec.ofChange Rows.dirsPacksSpec) false w args)
  (Rows.dirsPacksSpec.post enc Tryd.prog Tryd.f3 false true false false) := by
 refine returnsInHanded_of_change_and (C := Tryd.checked) (X := fun w _ => laidMetH Tryd.prog laidD w) (fun _ _ _ hh h => h.of_heap hh) own started (by kernel_rfl) Tryd.func3
  (ChangeSpec.witness_shaped (enc := enc) (C := Tryd.checked) (os := os) (X := fun w _ => laidMetH Tryd.prog laidD w) false (World.doorLaid Tryd.prog doorSteps os) #[capV CapD.none_ (.slice none 0 0), .bool false, .slice none 0 0, .bool false] 8 rfl (World.shaped_of_RefB (by kernel_rfl) (by kernel_rfl)) (by kernel_rfl) (by kernel_rfl) (by kernel_rfl) (door_met os _)) ?_
 intro W base args ds gs before hval0 hW _ _ hL _
 have hT := tab_of hL
 have hval : ∀ (j : Nat) t v, Tryd.f3.params[j]? = some t → args[j]? = some v → Value.okWide Tryd.prog W .any base t v := hval0
 have hW' := hW
 obtain ⟨p, q, hA0, hV, rfl, hfz, hnd⟩ := hW
 have hA : DataW.TrodAll enc Tryd.prog W 0 (fun _ => true) true Tryd.f3.params.toList args.toList ds p := hA0
 rw [Tryd.params3] at hA hval
 obtain ⟨v0, vs0, d0, ds0, p0, q0, hargs, rfl, rfl, h0, r0⟩ := trodAll_cons hA
 obtain ⟨v1, vs1, d1, ds1, p1, q1, rfl, rfl, rfl, h1, r1⟩ := trodAll_cons r0
 obtain ⟨v2, vs2, d2, ds2, p2, q2, rfl, rfl, rfl, h2, r2⟩ := trodAll_cons r1
 obtain ⟨v3, vs3, d3, ds3, p3, q3, rfl, rfl, rfl, h3, r3⟩ := trodAll_cons r2
 obtain ⟨rfl, rfl, rfl⟩ := trodAll_nil r3
 obtain rfl : args = #[v0, v1, v2, v3] := by cases args; simp_all
 obtain ⟨rfl, rfl⟩ := trodVars_none hV
 have k0 := h0
 have lt0 : ∀ x ∈ p0, x.block < W.heap.size := by obtain ⟨m, hm⟩ := k0; exact DataW.trod_lt m _ _ _ hm
 obtain ⟨z0, l0, rfl, w0, b0⟩ := read_cap (hval 0 28 v0 rfl rfl) h0
 obtain ⟨a1, rfl, rfl, rfl⟩ := open_bool Tryd.underlying4 (hval 1 4 v1 rfl rfl) h1
 have k2 := h2
 have lt2 : ∀ x ∈ p2, x.block < W.heap.size := by obtain ⟨m, hm⟩ := k2; exact DataW.trod_lt m _ _ _ hm
 obtain ⟨z2, w2, b2⟩ := read_ents (hval 2 29 v2 rfl rfl) h2
 obtain ⟨a3, rfl, rfl, rfl⟩ := open_bool Tryd.underlying4 (hval 3 4 v3 rfl rfl) h3
 clear hA0 hval0
 refine (walk W hT z0 l0 w0 b0 a1 v2 z2 w2 b2 a3).mono fun e W' ⟨he, bel⟩ => ?_
 subst he
 exact ⟨_, rfl, _, _, _, [], _, [], hW', trodAll_mk1 (shut_bool Tryd.underlying4 _), (trodAll_cons_mk (Below.trod laidOut (by kernel_rfl) (of_decide_eq_true (by kernel_rfl)) k0 bel lt0) (trodAll_cons_mk (shut_bool Tryd.underlying4 _) (trodAll_cons_mk (Below.trod laidOut (by kernel_rfl) (of_decide_eq_true (by kernel_rfl)) k2 bel lt2) (trodAll_cons_mk (shut_bool Tryd.underlying4 _) trodAll_mk0)))), rfl, bel.frame _, fun h => by cases h⟩

theorem over : Rows.dirsPacksRow.holds Tryd.pinned (OpenSpec.ofChange Rows.dirsPacksSpec) :=
 OpenClaim.holds_of_wide 3 Tryd.f3 rfl rfl rfl rfl rfl rfl rfl ⟨rfl, rfl, rfl, rfl, rfl⟩ rfl rfl rfl rfl rfl (by kernel_rfl) Tryd.func3 (by kernel_rfl)
  (of_decide_eq_true (by kernel_rfl)) (by unfold Func.isWrapper; rw [if_neg (of_decide_eq_false (by kernel_rfl))]; exact ⟨rfl, rfl⟩)
  (fun os started H enc _ => lifted os started H enc)

theorem proved : Rows.DirsPacksCardSaid :=
 Claim7.holds_tied_plain_at .later [] Rows.dirsPacksCard.laidKinds true Rows.dirsPacksCard.stood.harness Rows.dirsPacksCard.stood.looks
  over (fun _ h => by cases h) (by kernel_rfl) (fun _ h => by cases h) dirsPacks_row_tie rfl ⟨rfl, rfl⟩ (by kernel_rfl) rfl
  (fun f fn hf hfn => by
   obtain rfl : f = 3 := Option.some.inj ((show Tryd.prog.funcNamed "aumbry/aumbrylaw23.DirsPacks" = some 3 by kernel_rfl).symm.trans hf) |>.symm
   obtain rfl : fn = Tryd.f3 := (Option.some.inj (Tryd.func3.symm.trans hfn)).symm
   exact ⟨by kernel_rfl, fun j t ht => by
    have ht' : Tryd.f3.params[j]? = some t := ht
    rw [Tryd.params3] at ht'
    have hm : t ∈ [28, 4, 29, 4] := by simpa using Array.mem_of_getElem? ht'
    have hall : ([28, 4, 29, 4].all fun u => !Tryd.prog.wantsStandIn u) = true := by kernel_rfl
    exact (show Tryd.prog.wantsStandIn t = false by simpa using List.all_eq_true.1 hall t hm)⟩)
  (by kernel_rfl)
end Go.Proofs.YthdjgebbjogmiaaDoor.LawDirsPacks
