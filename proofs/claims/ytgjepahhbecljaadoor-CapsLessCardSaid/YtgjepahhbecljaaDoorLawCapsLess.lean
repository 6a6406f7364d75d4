/-
CapsLess holds: what may only read, what may only verify the same, the storage index, are the document's. Conditions: none but the row's own.
-/
import Derived.Test.YtgjepahhbecljaaDoorCapKeysR
import Derived.Test.YtgjepahhbecljaaDoorCapCut
import Derived.Test.YtgjepahhbecljaaDoorWakes13
import Derived.Test.YtgjepahhbecljaaDoorSameCap
import Derived.Test.YtgjepahhbecljaaDoorTied
namespace Go.Proofs.YtgjepahhbecljaaDoor.LawCapsLess
open Go Go.RowKit Go.ChangeShapes Go.WideShapes Go.ChangeAt
set_option linter.unusedVariables false
set_option linter.unusedSimpArgs false
set_option maxRecDepth 100000
section
variable {ops : Array Oper} {rest : List Oper} {o : Oper} {a : Act} {w : World} {Q : Exit → Act → World → Prop}
theorem wpList_load_key {g : Nat} {k : List Int} (hgw : Region.wanted o (yielded ops a.tmps) = true) (x : Operand) (ho : o.op = .load 23 x) (hx : a.eval x = .pointer (some ⟨g, 0, none⟩)) (hB : Blk w g 23 (u8s k)) (hk : k.length = 16)
    (h : wpList Tryd.prog ops Q rest (a.put o.dst (.agg (u8s k).toArray)) w) : wpList Tryd.prog ops Q (o :: rest) a w :=
  wpList_go hgw fun _ hK => wp_load_mid _ x ho g 0 hx _ _ (blk_range hB 0 _ (fun j u hu => by rw [Nat.zero_add]; exact hu)) Tryd.underlying23 rfl (by rw [u8s_len, hk]; exact size_key) (hK _ _ h)
end
theorem cut_in {a : CapD} (h : a.In) : (cutF a).In := ⟨⟨h.keyL, h.keyB, h.fpL, h.fpB, fun x hx => h.litB x (List.mem_of_mem_take hx)⟩, h.kindI, h.KI, h.NI, h.SI⟩

set_option maxHeartbeats 16000000 in
theorem walk (w : World) (ht : Tab w w.heap.size) (a : CapD) (la : Value) (hca : a.In) (hla : Bs w w.heap.size la a.lit) (right : Bool) :
    Calls Tryd.prog 9 #[capV a la, .bool right] w fun e w' => e = .returned (.bool true) ∧ Below w.heap.size w w' := by
  have HRA := hide (fun (w' : World) (hw : Below w.heap.size w w') => cutc_any a la w' hca.keyL hca.fpL w.heap.size hw.size (hla.below hw (Nat.le_refl _)))
  have HCI := hide (cut_in hca)
  have A1 := hide hca.keyL
  have A2 := hide hca.fpL
  have A3 := hide hla.one
  have HT := hide ht
  clear hla ht
  obtain ⟨VA, EVA⟩ : ∃ x, Hid (capV a la = x) := ⟨_, hide rfl⟩
  rw [EVA.out] at HRA ⊢
  have hcl := cutF_len a
  have HCT := hide (show (cutF a).lit = a.lit.take 80 from rfl)
  obtain ⟨D, ED⟩ : ∃ x, Hid (cutF a = x) := ⟨_, hide rfl⟩
  rw [ED.out] at HRA HCI hcl HCT
  have hcdl : D.lit.length ≤ 1000000 := by omega
  have HDK := hide HCI.out.keyL
  have HDF := hide HCI.out.fpL
  clear hca
  go_enter Tryd.func9, Tryd.ntmps9
  obtain ⟨gc, hgc⟩ : ∃ n, w.heap.size = n := ⟨_, rfl⟩
  have hwgc : w.heap.size ≤ gc := by omega
  go_wp2_with (first
    | (refine wpList_cap_new _ rfl (EVA.out.symm) rfl A1.out A2.out A3.out ?_; intro w1 hb1 hw1 hs1; rw [hgc] at hb1 ⊢; have B0 := hide hb1; have HW := hide hw1; have hz1 : gc + 1 ≤ w1.heap.size := (by omega); clear hb1 hw1 hs1)
    | (refine wpList_cap_all _ rfl rfl rfl B0.out ?_; rw [EVA.out]))
  refine (HRA.out _ HW.out).mono ?_
  rintro e w2 ⟨lc, rfl, ho, hb⟩
  have hz0 := hb.size
  replace B0 := hide (B0.out.below hb B0.out.lt)
  replace HW := hide (HW.out.trans (hb.mono HW.out.size))
  rw [← HCT.out] at ho
  have HO := hide ho
  have LOc := hide ho.one
  clear hb ho
  obtain ⟨Vd, EVd⟩ : ∃ x, Hid (capV D lc = x) := ⟨_, hide rfl⟩
  rw [EVd.out]
  have hz0' : gc + 1 ≤ w2.heap.size := by omega
  cases right
  case false =>
    have HWF := hide HCI.out.toWf
    have hlitn := hcdl
    obtain ⟨E1, HE1⟩ : ∃ x, Hid (roE D = x) := ⟨_, hide rfl⟩
    obtain ⟨E2, HE2⟩ : ∃ x, Hid (voE D = x) := ⟨_, hide rfl⟩
    obtain ⟨Cr, HCR⟩ : ∃ x, Hid (roF D = x) := ⟨_, hide rfl⟩
    obtain ⟨Cv, HCV⟩ : ∃ x, Hid (voF D = x) := ⟨_, hide rfl⟩
    obtain ⟨IX, HIX⟩ : ∃ x, Hid (ixF D = x) := ⟨_, hide rfl⟩
    have WR := hide (show Cr.Wf by rw [← HCR.out]; exact roF_wf HWF.out)
    have WV := hide (show Cv.Wf by rw [← HCV.out]; exact voF_wf HWF.out)
    have HIXL := hide (show IX.length = 16 by rw [← HIX.out]; exact (voF_wf HWF.out).keyL)
    have HSR := hide (sameF_self Cr)
    have HSV := hide (sameF_self Cv)
    go_wp2_with (first
        | (refine wpList_cap_putAll _ _ rfl rfl rfl B0.out D lc EVd.out.symm HDK.out HDF.out LOc.out ?_; intro w3 hb3 hg3 hs3; have hbt := (Below.refl gc _).grown hg3 (by have := B0.out.lt; omega) (by intro k hk; simp at hk; omega); replace B0 := hide hb3; replace HO := hide (HO.out.below hbt (by omega)); replace HW := hide (HW.out.grown hg3 HW.out.size (by intro k hk; simp at hk; omega)); have Bc := B0; have Lc := HO; have hz3 : gc + 1 ≤ w3.heap.size := (by omega); clear hb3 hg3 hs3 hbt)
        | (refine wpList_cap_all _ rfl rfl rfl Bc.out ?_; rw [EVd.out]))
    have hcall := ReadOnly_any D lc _ HWF.out (Lc.out.more (by omega)) hlitn ((HT.out.below HW.out (Nat.le_refl _)).more HW.out.size)
    rw [EVd.out, HCR.out, HE1.out] at hcall
    refine hcall.mono ?_
    clear hcall
    rintro e wc1 ⟨lr, rfl, hl, hb⟩
    have hz1 := hb.size
    replace Lc := hide (Lc.out.below hb (by have := Bc.out.lt; omega))
    replace Bc := hide (Bc.out.below hb Bc.out.lt)
    replace HW := hide (HW.out.trans (hb.mono HW.out.size))
    have Lr := hide hl
    have LOr := hide hl.one
    clear hl
    clear hb
    obtain ⟨Vr, EVr⟩ : ∃ x, Hid (capV Cr lr = x) := ⟨_, hide rfl⟩
    rw [EVr.out]
    obtain ⟨gr, hgr⟩ : ∃ n, wc1.heap.size = n := ⟨_, rfl⟩
    have hwgr : w.heap.size ≤ gr := by have := HW.out.size; omega
    have hgcgr : gc < gr := by have := Bc.out.lt; omega
    rw [hgr] at Lr
    go_wp2_with (first
        | (refine wpList_cap_zero rfl rfl ?_; intro wa1 hba hwa hsa; rw [hgr] at hba hwa hsa; try rw [hgr]; have Br := hide hba; replace Lc := hide (Lc.out.below hwa (by omega)); replace Lr := hide (Lr.out.below hwa (by omega)); replace Bc := hide (Bc.out.below hwa (by omega)); replace HW := hide (HW.out.trans (hwa.mono (by omega))); have hza1 : gr + 1 ≤ wa1.heap.size := (by omega); clear hba hwa hsa)
        | (refine wpList_cap_putAll _ _ rfl rfl rfl Br.out Cr lr EVr.out.symm WR.out.keyL WR.out.fpL LOr.out ?_; intro ws1 hbs hgs hss; have hbt := (Below.refl gr _).grown hgs (by have := Br.out.lt; omega) (by intro k hk; simp at hk; omega); replace Lc := hide (Lc.out.below hbt (by omega)); replace Bc := hide (Bc.out.grown hgs (by intro h; injection h with h; omega)); replace HW := hide (HW.out.grown hgs HW.out.size (by intro k hk; simp at hk; omega)); replace Lr := hide (Lr.out.below hbt (by omega)); clear hbt; replace Br := hide hbs; have hzs1 : gr + 1 ≤ ws1.heap.size := (by omega); clear hbs hgs hss)
        | (refine wpList_cap_all _ rfl rfl rfl Bc.out ?_; rw [EVd.out]))
    have hcall := ReadOnly_ref D lc _ HWF.out (Lc.out.more (by omega)) hlitn
    rw [EVd.out, HCR.out, HE1.out] at hcall
    refine hcall.mono ?_
    clear hcall
    rintro e wc2 ⟨ls, rfl, hl, hb⟩
    have hz2 := hb.size
    replace Lc := hide (Lc.out.below hb (by have := Bc.out.lt; omega))
    replace Lr := hide (Lr.out.below hb (by have := Br.out.lt; omega))
    replace Bc := hide (Bc.out.below hb Bc.out.lt)
    replace Br := hide (Br.out.below hb Br.out.lt)
    replace HW := hide (HW.out.trans (hb.mono HW.out.size))
    have Ls := hide hl
    have LOs := hide hl.one
    clear hl
    clear hb
    obtain ⟨Vs, EVs⟩ : ∃ x, Hid (capV Cr ls = x) := ⟨_, hide rfl⟩
    rw [EVs.out]
    obtain ⟨gs, hgs⟩ : ∃ n, wc2.heap.size = n := ⟨_, rfl⟩
    have hwgs : w.heap.size ≤ gs := by have := HW.out.size; omega
    have hgcgs : gc < gs := by have := Bc.out.lt; omega
    have hgrgs : gr < gs := by have := Br.out.lt; omega
    rw [hgs] at Ls
    go_wp2_with (first
        | (refine wpList_cap_zero rfl rfl ?_; intro wa2 hba hwa hsa; rw [hgs] at hba hwa hsa; try rw [hgs]; have Bs := hide hba; replace Lc := hide (Lc.out.below hwa (by omega)); replace Lr := hide (Lr.out.below hwa (by omega)); replace Ls := hide (Ls.out.below hwa (by omega)); replace Bc := hide (Bc.out.below hwa (by omega)); replace Br := hide (Br.out.below hwa (by omega)); replace HW := hide (HW.out.trans (hwa.mono (by omega))); have hza2 : gs + 1 ≤ wa2.heap.size := (by omega); clear hba hwa hsa)
        | (refine wpList_cap_putAll _ _ rfl rfl rfl Bs.out Cr ls EVs.out.symm WR.out.keyL WR.out.fpL LOs.out ?_; intro ws2 hbs hgs hss; have hbt := (Below.refl gs _).grown hgs (by have := Bs.out.lt; omega) (by intro k hk; simp at hk; omega); replace Lc := hide (Lc.out.below hbt (by omega)); replace Lr := hide (Lr.out.below hbt (by omega)); replace Bc := hide (Bc.out.grown hgs (by intro h; injection h with h; omega)); replace Br := hide (Br.out.grown hgs (by intro h; injection h with h; omega)); replace HW := hide (HW.out.grown hgs HW.out.size (by intro k hk; simp at hk; omega)); replace Ls := hide (Ls.out.below hbt (by omega)); clear hbt; replace Bs := hide hbs; have hzs2 : gs + 1 ≤ ws2.heap.size := (by omega); clear hbs hgs hss)
        | (refine wpList_cap_all _ rfl rfl rfl Bc.out ?_; rw [EVd.out]))
    have hcall := VerifyOnly_any D lc _ HWF.out (Lc.out.more (by omega)) hlitn ((HT.out.below HW.out (Nat.le_refl _)).more HW.out.size)
    rw [EVd.out, HCV.out, HE2.out] at hcall
    refine hcall.mono ?_
    clear hcall
    rintro e wc3 ⟨lv, rfl, hl, hb⟩
    have hz3 := hb.size
    replace Lc := hide (Lc.out.below hb (by have := Bc.out.lt; omega))
    replace Lr := hide (Lr.out.below hb (by have := Br.out.lt; omega))
    replace Ls := hide (Ls.out.below hb (by have := Bs.out.lt; omega))
    replace Bc := hide (Bc.out.below hb Bc.out.lt)
    replace Br := hide (Br.out.below hb Br.out.lt)
    replace Bs := hide (Bs.out.below hb Bs.out.lt)
    replace HW := hide (HW.out.trans (hb.mono HW.out.size))
    have Lv := hide hl
    have LOv := hide hl.one
    clear hl
    clear hb
    obtain ⟨Vv, EVv⟩ : ∃ x, Hid (capV Cv lv = x) := ⟨_, hide rfl⟩
    rw [EVv.out]
    obtain ⟨gv, hgv⟩ : ∃ n, wc3.heap.size = n := ⟨_, rfl⟩
    have hwgv : w.heap.size ≤ gv := by have := HW.out.size; omega
    have hgcgv : gc < gv := by have := Bc.out.lt; omega
    have hgrgv : gr < gv := by have := Br.out.lt; omega
    have hgsgv : gs < gv := by have := Bs.out.lt; omega
    rw [hgv] at Lv
    go_wp2_with (first
        | (refine wpList_cap_zero rfl rfl ?_; intro wa3 hba hwa hsa; rw [hgv] at hba hwa hsa; try rw [hgv]; have Bv := hide hba; replace Lc := hide (Lc.out.below hwa (by omega)); replace Lr := hide (Lr.out.below hwa (by omega)); replace Ls := hide (Ls.out.below hwa (by omega)); replace Lv := hide (Lv.out.below hwa (by omega)); replace Bc := hide (Bc.out.below hwa (by omega)); replace Br := hide (Br.out.below hwa (by omega)); replace Bs := hide (Bs.out.below hwa (by omega)); replace HW := hide (HW.out.trans (hwa.mono (by omega))); have hza3 : gv + 1 ≤ wa3.heap.size := (by omega); clear hba hwa hsa)
        | (refine wpList_cap_putAll _ _ rfl rfl rfl Bv.out Cv lv EVv.out.symm WV.out.keyL WV.out.fpL LOv.out ?_; intro ws3 hbs hgs hss; have hbt := (Below.refl gv _).grown hgs (by have := Bv.out.lt; omega) (by intro k hk; simp at hk; omega); replace Lc := hide (Lc.out.below hbt (by omega)); replace Lr := hide (Lr.out.below hbt (by omega)); replace Ls := hide (Ls.out.below hbt (by omega)); replace Bc := hide (Bc.out.grown hgs (by intro h; injection h with h; omega)); replace Br := hide (Br.out.grown hgs (by intro h; injection h with h; omega)); replace Bs := hide (Bs.out.grown hgs (by intro h; injection h with h; omega)); replace HW := hide (HW.out.grown hgs HW.out.size (by intro k hk; simp at hk; omega)); replace Lv := hide (Lv.out.below hbt (by omega)); clear hbt; replace Bv := hide hbs; have hzs3 : gv + 1 ≤ ws3.heap.size := (by omega); clear hbs hgs hss)
        | (refine wpList_cap_all _ rfl rfl rfl Bc.out ?_; rw [EVd.out]))
    have hcall := VerifyOnly_ref D lc _ HWF.out (Lc.out.more (by omega)) hlitn
    rw [EVd.out, HCV.out, HE2.out] at hcall
    refine hcall.mono ?_
    clear hcall
    rintro e wc4 ⟨lx, rfl, hl, hb⟩
    have hz4 := hb.size
    replace Lc := hide (Lc.out.below hb (by have := Bc.out.lt; omega))
    replace Lr := hide (Lr.out.below hb (by have := Br.out.lt; omega))
    replace Ls := hide (Ls.out.below hb (by have := Bs.out.lt; omega))
    replace Lv := hide (Lv.out.below hb (by have := Bv.out.lt; omega))
    replace Bc := hide (Bc.out.below hb Bc.out.lt)
    replace Br := hide (Br.out.below hb Br.out.lt)
    replace Bs := hide (Bs.out.below hb Bs.out.lt)
    replace Bv := hide (Bv.out.below hb Bv.out.lt)
    replace HW := hide (HW.out.trans (hb.mono HW.out.size))
    have Lx := hide hl
    have LOx := hide hl.one
    clear hl
    clear hb
    obtain ⟨Vx, EVx⟩ : ∃ x, Hid (capV Cv lx = x) := ⟨_, hide rfl⟩
    rw [EVx.out]
    obtain ⟨gx, hgx⟩ : ∃ n, wc4.heap.size = n := ⟨_, rfl⟩
    have hwgx : w.heap.size ≤ gx := by have := HW.out.size; omega
    have hgcgx : gc < gx := by have := Bc.out.lt; omega
    have hgrgx : gr < gx := by have := Br.out.lt; omega
    have hgsgx : gs < gx := by have := Bs.out.lt; omega
    have hgvgx : gv < gx := by have := Bv.out.lt; omega
    rw [hgx] at Lx
    go_wp2_with (first
        | (refine wpList_cap_zero rfl rfl ?_; intro wa4 hba hwa hsa; rw [hgx] at hba hwa hsa; try rw [hgx]; have Bx := hide hba; replace Lc := hide (Lc.out.below hwa (by omega)); replace Lr := hide (Lr.out.below hwa (by omega)); replace Ls := hide (Ls.out.below hwa (by omega)); replace Lv := hide (Lv.out.below hwa (by omega)); replace Lx := hide (Lx.out.below hwa (by omega)); replace Bc := hide (Bc.out.below hwa (by omega)); replace Br := hide (Br.out.below hwa (by omega)); replace Bs := hide (Bs.out.below hwa (by omega)); replace Bv := hide (Bv.out.below hwa (by omega)); replace HW := hide (HW.out.trans (hwa.mono (by omega))); have hza4 : gx + 1 ≤ wa4.heap.size := (by omega); clear hba hwa hsa)
        | (refine wpList_cap_putAll _ _ rfl rfl rfl Bx.out Cv lx EVx.out.symm WV.out.keyL WV.out.fpL LOx.out ?_; intro ws4 hbs hgs hss; have hbt := (Below.refl gx _).grown hgs (by have := Bx.out.lt; omega) (by intro k hk; simp at hk; omega); replace Lc := hide (Lc.out.below hbt (by omega)); replace Lr := hide (Lr.out.below hbt (by omega)); replace Ls := hide (Ls.out.below hbt (by omega)); replace Lv := hide (Lv.out.below hbt (by omega)); replace Bc := hide (Bc.out.grown hgs (by intro h; injection h with h; omega)); replace Br := hide (Br.out.grown hgs (by intro h; injection h with h; omega)); replace Bs := hide (Bs.out.grown hgs (by intro h; injection h with h; omega)); replace Bv := hide (Bv.out.grown hgs (by intro h; injection h with h; omega)); replace HW := hide (HW.out.grown hgs HW.out.size (by intro k hk; simp at hk; omega)); replace Lx := hide (Lx.out.below hbt (by omega)); clear hbt; replace Bx := hide hbs; have hzs4 : gx + 1 ≤ ws4.heap.size := (by omega); clear hbs hgs hss)
        | (refine wpList_cap_all _ rfl rfl rfl Bc.out ?_; rw [EVd.out]))
    have hcall := Index_any D lc _ HWF.out (Lc.out.more (by omega)) hlitn ((HT.out.below HW.out (Nat.le_refl _)).more HW.out.size)
    rw [EVd.out, HIX.out, HE2.out] at hcall
    refine hcall.mono ?_
    clear hcall
    rintro e wc5 ⟨rfl, hb⟩
    have hz5 := hb.size
    replace Lc := hide (Lc.out.below hb (by have := Bc.out.lt; omega))
    replace Lr := hide (Lr.out.below hb (by have := Br.out.lt; omega))
    replace Ls := hide (Ls.out.below hb (by have := Bs.out.lt; omega))
    replace Lv := hide (Lv.out.below hb (by have := Bv.out.lt; omega))
    replace Lx := hide (Lx.out.below hb (by have := Bx.out.lt; omega))
    replace Bc := hide (Bc.out.below hb Bc.out.lt)
    replace Br := hide (Br.out.below hb Br.out.lt)
    replace Bs := hide (Bs.out.below hb Bs.out.lt)
    replace Bv := hide (Bv.out.below hb Bv.out.lt)
    replace Bx := hide (Bx.out.below hb Bx.out.lt)
    replace HW := hide (HW.out.trans (hb.mono HW.out.size))
    clear hb
    obtain ⟨gi, hgi⟩ : ∃ n, wc5.heap.size = n := ⟨_, rfl⟩
    have hwgi : w.heap.size ≤ gi := by have := HW.out.size; omega
    have hgcgi : gc < gi := by have := Bc.out.lt; omega
    have hgrgi : gr < gi := by have := Br.out.lt; omega
    have hgsgi : gs < gi := by have := Bs.out.lt; omega
    have hgvgi : gv < gi := by have := Bv.out.lt; omega
    have hgxgi : gx < gi := by have := Bx.out.lt; omega
    go_wp2_with (first
        | (refine wpList_alloc_blk rfl 23 rfl _ zero_key ?_; intro wa5 hba hwa hsa; rw [hgi] at hba hwa hsa; try rw [hgi]; have Bi := hide hba; replace Lc := hide (Lc.out.below hwa (by omega)); replace Lr := hide (Lr.out.below hwa (by omega)); replace Ls := hide (Ls.out.below hwa (by omega)); replace Lv := hide (Lv.out.below hwa (by omega)); replace Lx := hide (Lx.out.below hwa (by omega)); replace Bc := hide (Bc.out.below hwa (by omega)); replace Br := hide (Br.out.below hwa (by omega)); replace Bs := hide (Bs.out.below hwa (by omega)); replace Bv := hide (Bv.out.below hwa (by omega)); replace Bx := hide (Bx.out.below hwa (by omega)); replace HW := hide (HW.out.trans (hwa.mono (by omega))); have hza5 : gi + 1 ≤ wa5.heap.size := (by omega); clear hba hwa hsa)
        | (refine wpList_store_blk rfl 23 _ _ rfl gi 0 (u8s IX) rfl (by exact rfl) _ _ Bi.out (by rw [u8s_len, u8s_len, HIXL.out]; simp) (by rw [u8s_len, HIXL.out]; exact size_key) (u8s_one _) ?_; intro ws5 hbs hgs hss; rw [lset_all _ _ (by rw [u8s_len, u8s_len, HIXL.out]; rfl)] at hbs; have hbt := (Below.refl gi _).grown hgs (by have := Bi.out.lt; omega) (by intro k hk; simp at hk; omega); replace Lc := hide (Lc.out.below hbt (by omega)); replace Lr := hide (Lr.out.below hbt (by omega)); replace Ls := hide (Ls.out.below hbt (by omega)); replace Lv := hide (Lv.out.below hbt (by omega)); replace Lx := hide (Lx.out.below hbt (by omega)); replace Bc := hide (Bc.out.grown hgs (by intro h; injection h with h; omega)); replace Br := hide (Br.out.grown hgs (by intro h; injection h with h; omega)); replace Bs := hide (Bs.out.grown hgs (by intro h; injection h with h; omega)); replace Bv := hide (Bv.out.grown hgs (by intro h; injection h with h; omega)); replace Bx := hide (Bx.out.grown hgs (by intro h; injection h with h; omega)); replace HW := hide (HW.out.grown hgs HW.out.size (by intro k hk; simp at hk; omega)); clear hbt; replace Bi := hide hbs; have hzs5 : gi + 1 ≤ ws5.heap.size := (by omega); clear hbs hgs hss)
        | (refine wpList_cap_all _ rfl rfl rfl Bc.out ?_; rw [EVd.out]))
    have hcall := Index_ref D lc _ HWF.out (Lc.out.more (by omega)) hlitn
    rw [EVd.out, HIX.out, HE2.out] at hcall
    refine hcall.mono ?_
    clear hcall
    rintro e wc6 ⟨rfl, hb⟩
    have hz6 := hb.size
    replace Lc := hide (Lc.out.below hb (by have := Bc.out.lt; omega))
    replace Lr := hide (Lr.out.below hb (by have := Br.out.lt; omega))
    replace Ls := hide (Ls.out.below hb (by have := Bs.out.lt; omega))
    replace Lv := hide (Lv.out.below hb (by have := Bv.out.lt; omega))
    replace Lx := hide (Lx.out.below hb (by have := Bx.out.lt; omega))
    replace Bc := hide (Bc.out.below hb Bc.out.lt)
    replace Br := hide (Br.out.below hb Br.out.lt)
    replace Bs := hide (Bs.out.below hb Bs.out.lt)
    replace Bv := hide (Bv.out.below hb Bv.out.lt)
    replace Bx := hide (Bx.out.below hb Bx.out.lt)
    replace Bi := hide (Bi.out.below hb Bi.out.lt)
    replace HW := hide (HW.out.trans (hb.mono HW.out.size))
    clear hb
    obtain ⟨gk, hgk⟩ : ∃ n, wc6.heap.size = n := ⟨_, rfl⟩
    have hwgk : w.heap.size ≤ gk := by have := HW.out.size; omega
    have hgcgk : gc < gk := by have := Bc.out.lt; omega
    have hgrgk : gr < gk := by have := Br.out.lt; omega
    have hgsgk : gs < gk := by have := Bs.out.lt; omega
    have hgvgk : gv < gk := by have := Bv.out.lt; omega
    have hgxgk : gx < gk := by have := Bx.out.lt; omega
    have hgigk : gi < gk := by have := Bi.out.lt; omega
    go_wp2_with (first
        | go_skip
        | (refine wpList_alloc_blk rfl 23 rfl _ zero_key ?_; intro wa6 hba hwa hsa; rw [hgk] at hba hwa hsa; try rw [hgk]; have Bk := hide hba; replace Lc := hide (Lc.out.below hwa (by omega)); replace Lr := hide (Lr.out.below hwa (by omega)); replace Ls := hide (Ls.out.below hwa (by omega)); replace Lv := hide (Lv.out.below hwa (by omega)); replace Lx := hide (Lx.out.below hwa (by omega)); replace Bc := hide (Bc.out.below hwa (by omega)); replace Br := hide (Br.out.below hwa (by omega)); replace Bs := hide (Bs.out.below hwa (by omega)); replace Bv := hide (Bv.out.below hwa (by omega)); replace Bx := hide (Bx.out.below hwa (by omega)); replace Bi := hide (Bi.out.below hwa (by omega)); replace HW := hide (HW.out.trans (hwa.mono (by omega))); have hza6 : gk + 1 ≤ wa6.heap.size := (by omega); clear hba hwa hsa)
        | (refine wpList_store_blk rfl 23 _ _ rfl gk 0 (u8s IX) rfl (by exact rfl) _ _ Bk.out (by rw [u8s_len, u8s_len, HIXL.out]; simp) (by rw [u8s_len, HIXL.out]; exact size_key) (u8s_one _) ?_; intro ws6 hbs hgs hss; rw [lset_all _ _ (by rw [u8s_len, u8s_len, HIXL.out]; rfl)] at hbs; have hbt := (Below.refl gk _).grown hgs (by have := Bk.out.lt; omega) (by intro k hk; simp at hk; omega); replace Lc := hide (Lc.out.below hbt (by omega)); replace Lr := hide (Lr.out.below hbt (by omega)); replace Ls := hide (Ls.out.below hbt (by omega)); replace Lv := hide (Lv.out.below hbt (by omega)); replace Lx := hide (Lx.out.below hbt (by omega)); replace Bc := hide (Bc.out.grown hgs (by intro h; injection h with h; omega)); replace Br := hide (Br.out.grown hgs (by intro h; injection h with h; omega)); replace Bs := hide (Bs.out.grown hgs (by intro h; injection h with h; omega)); replace Bv := hide (Bv.out.grown hgs (by intro h; injection h with h; omega)); replace Bx := hide (Bx.out.grown hgs (by intro h; injection h with h; omega)); replace Bi := hide (Bi.out.grown hgs (by intro h; injection h with h; omega)); replace HW := hide (HW.out.grown hgs HW.out.size (by intro k hk; simp at hk; omega)); clear hbt; replace Bk := hide hbs; have hzs6 : gk + 1 ≤ ws6.heap.size := (by omega); clear hbs hgs hss)
        | (refine wpList_cap_all _ rfl rfl rfl Br.out ?_; rw [EVr.out])
        | (refine wpList_cap_all _ rfl rfl rfl Bs.out ?_; rw [EVs.out]))
    have hcall := same_cap Cr Cr lr ls _ WR.out.keyL WR.out.fpL WR.out.keyL WR.out.fpL (Lr.out.more (by omega)) (Ls.out.more (by omega)) WR.out.litB WR.out.litB
    rw [EVr.out, EVs.out, HSR.out] at hcall
    refine hcall.mono ?_
    clear hcall
    rintro e wc7 ⟨rfl, hb⟩
    have hz7 := hb.size
    replace Lc := hide (Lc.out.below hb (by have := Bc.out.lt; omega))
    replace Lr := hide (Lr.out.below hb (by have := Br.out.lt; omega))
    replace Ls := hide (Ls.out.below hb (by have := Bs.out.lt; omega))
    replace Lv := hide (Lv.out.below hb (by have := Bv.out.lt; omega))
    replace Lx := hide (Lx.out.below hb (by have := Bx.out.lt; omega))
    replace Bc := hide (Bc.out.below hb Bc.out.lt)
    replace Br := hide (Br.out.below hb Br.out.lt)
    replace Bs := hide (Bs.out.below hb Bs.out.lt)
    replace Bv := hide (Bv.out.below hb Bv.out.lt)
    replace Bx := hide (Bx.out.below hb Bx.out.lt)
    replace Bi := hide (Bi.out.below hb Bi.out.lt)
    replace Bk := hide (Bk.out.below hb Bk.out.lt)
    replace HW := hide (HW.out.trans (hb.mono HW.out.size))
    clear hb
    go_wp2_with (first
        | go_skip
        | (refine wpList_cap_all _ rfl rfl rfl Bv.out ?_; rw [EVv.out])
        | (refine wpList_cap_all _ rfl rfl rfl Bx.out ?_; rw [EVx.out]))
    have hcall := same_cap Cv Cv lv lx _ WV.out.keyL WV.out.fpL WV.out.keyL WV.out.fpL (Lv.out.more (by omega)) (Lx.out.more (by omega)) WV.out.litB WV.out.litB
    rw [EVv.out, EVx.out, HSV.out] at hcall
    refine hcall.mono ?_
    clear hcall
    rintro e wc8 ⟨rfl, hb⟩
    have hz8 := hb.size
    replace Lc := hide (Lc.out.below hb (by have := Bc.out.lt; omega))
    replace Lr := hide (Lr.out.below hb (by have := Br.out.lt; omega))
    replace Ls := hide (Ls.out.below hb (by have := Bs.out.lt; omega))
    replace Lv := hide (Lv.out.below hb (by have := Bv.out.lt; omega))
    replace Lx := hide (Lx.out.below hb (by have := Bx.out.lt; omega))
    replace Bc := hide (Bc.out.below hb Bc.out.lt)
    replace Br := hide (Br.out.below hb Br.out.lt)
    replace Bs := hide (Bs.out.below hb Bs.out.lt)
    replace Bv := hide (Bv.out.below hb Bv.out.lt)
    replace Bx := hide (Bx.out.below hb Bx.out.lt)
    replace Bi := hide (Bi.out.below hb Bi.out.lt)
    replace Bk := hide (Bk.out.below hb Bk.out.lt)
    replace HW := hide (HW.out.trans (hb.mono HW.out.size))
    clear hb
    go_wp2_with (first
        | go_skip
        | (refine wpList_load_key rfl _ rfl rfl Bi.out HIXL.out ?_)
        | (refine wpList_load_key rfl _ rfl rfl Bk.out HIXL.out ?_)
        | (refine wpList_eql_key _ _ _ rfl IX IX rfl rfl rfl HIXL.out HIXL.out true (by simp) ?_))
    have hcall := wakes13 _ ((HT.out.below HW.out (Nat.le_refl _)).more HW.out.size)
    refine hcall.mono ?_
    clear hcall
    rintro e wc9 ⟨rfl, hb⟩
    have hz9 := hb.size
    replace Lc := hide (Lc.out.below hb (by have := Bc.out.lt; omega))
    replace Lr := hide (Lr.out.below hb (by have := Br.out.lt; omega))
    replace Ls := hide (Ls.out.below hb (by have := Bs.out.lt; omega))
    replace Lv := hide (Lv.out.below hb (by have := Bv.out.lt; omega))
    replace Lx := hide (Lx.out.below hb (by have := Bx.out.lt; omega))
    replace Bc := hide (Bc.out.below hb Bc.out.lt)
    replace Br := hide (Br.out.below hb Br.out.lt)
    replace Bs := hide (Bs.out.below hb Bs.out.lt)
    replace Bv := hide (Bv.out.below hb Bv.out.lt)
    replace Bx := hide (Bx.out.below hb Bx.out.lt)
    replace Bi := hide (Bi.out.below hb Bi.out.lt)
    replace Bk := hide (Bk.out.below hb Bk.out.lt)
    replace HW := hide (HW.out.trans (hb.mono HW.out.size))
    clear hb
    go_wp2_with fail
    go_ret
    exact ⟨rfl, HW.out⟩
  case true =>
    go_wp2_with (first
        | (refine wpList_cap_putAll _ _ rfl rfl rfl B0.out D lc EVd.out.symm HDK.out HDF.out LOc.out ?_; intro w3 hb3 hg3 hs3; have hbt := (Below.refl gc _).grown hg3 (by have := B0.out.lt; omega) (by intro k hk; simp at hk; omega); replace B0 := hide hb3; replace HO := hide (HO.out.below hbt (by omega)); replace HW := hide (HW.out.grown hg3 HW.out.size (by intro k hk; simp at hk; omega)); have hz3 : gc + 1 ≤ w3.heap.size := (by omega); clear hb3 hg3 hs3 hbt)
        | (refine wpList_cap_all _ rfl rfl rfl B0.out ?_; rw [EVd.out]))
    have hcall := right_any D lc w3 HCI.out (HO.out.more (by omega))
    rw [EVd.out] at hcall
    have hwf := right_wf HCI.out.toWf
    have hlit := right_lit D
    obtain ⟨C, EC⟩ : ∃ x, Hid (rightF D = x) := ⟨_, hide rfl⟩
    rw [EC.out] at hcall hwf hlit
    have HWF := hide hwf
    have HCK := hide hwf.keyL
    have HCF := hide hwf.fpL
    have hlitn : C.lit.length ≤ 1000000 := by omega
    clear hwf hlit
    refine hcall.mono ?_
    clear hcall
    rintro e w4 ⟨lq, rfl, ho, hb⟩
    have hz4 := hb.size
    replace B0 := hide (B0.out.below hb B0.out.lt)
    replace HW := hide (HW.out.trans (hb.mono HW.out.size))
    have HOq := hide ho
    have LOq := hide (own_one ho lq (by simp))
    clear hb ho
    obtain ⟨Vc, EVc⟩ : ∃ x, Hid (capV C lq = x) := ⟨_, hide rfl⟩
    rw [EVc.out]
    obtain ⟨m0, hm0⟩ : ∃ n, w4.heap.size = n := ⟨_, rfl⟩
    have hgm : gc < m0 := by omega
    obtain ⟨E1, HE1⟩ : ∃ x, Hid (roE C = x) := ⟨_, hide rfl⟩
    obtain ⟨E2, HE2⟩ : ∃ x, Hid (voE C = x) := ⟨_, hide rfl⟩
    obtain ⟨Cr, HCR⟩ : ∃ x, Hid (roF C = x) := ⟨_, hide rfl⟩
    obtain ⟨Cv, HCV⟩ : ∃ x, Hid (voF C = x) := ⟨_, hide rfl⟩
    obtain ⟨IX, HIX⟩ : ∃ x, Hid (ixF C = x) := ⟨_, hide rfl⟩
    have WR := hide (show Cr.Wf by rw [← HCR.out]; exact roF_wf HWF.out)
    have WV := hide (show Cv.Wf by rw [← HCV.out]; exact voF_wf HWF.out)
    have HIXL := hide (show IX.length = 16 by rw [← HIX.out]; exact (voF_wf HWF.out).keyL)
    have HSR := hide (sameF_self Cr)
    have HSV := hide (sameF_self Cv)
    go_wp2_with (first
        | (refine wpList_cap_putAll _ _ rfl rfl rfl B0.out C lq EVc.out.symm HCK.out HCF.out LOq.out ?_; intro w5 hb5 hg5 hs5; have Bc := hide hb5; have hO5 := HOq.out.kept hg5 (.inr (by rintro h; exact own_ne_blk HOq.out B0.out.blk (by decide) h.symm)); have Lc := hide (show Bs w5 m0 lq C.lit from (by have := Own8.reads (w := w5) hO5; rw [hs5, hm0] at this; exact this)); replace HW := hide (HW.out.grown hg5 HW.out.size (by intro k hk; simp at hk; omega)); have hz5 : m0 ≤ w5.heap.size := (by omega); clear hb5 hg5 hs5 B0 HOq)
        | (refine wpList_cap_all _ rfl rfl rfl Bc.out ?_; rw [EVc.out]))
    have hcall := ReadOnly_any C lq _ HWF.out (Lc.out.more (by omega)) hlitn ((HT.out.below HW.out (Nat.le_refl _)).more HW.out.size)
    rw [EVc.out, HCR.out, HE1.out] at hcall
    refine hcall.mono ?_
    clear hcall
    rintro e wc1 ⟨lr, rfl, hl, hb⟩
    have hz1 := hb.size
    replace Lc := hide (Lc.out.below hb (by have := Bc.out.lt; omega))
    replace Bc := hide (Bc.out.below hb Bc.out.lt)
    replace HW := hide (HW.out.trans (hb.mono HW.out.size))
    have Lr := hide hl
    have LOr := hide hl.one
    clear hl
    clear hb
    obtain ⟨Vr, EVr⟩ : ∃ x, Hid (capV Cr lr = x) := ⟨_, hide rfl⟩
    rw [EVr.out]
    obtain ⟨gr, hgr⟩ : ∃ n, wc1.heap.size = n := ⟨_, rfl⟩
    have hwgr : w.heap.size ≤ gr := by have := HW.out.size; omega
    have hgcgr : gc < gr := by have := Bc.out.lt; omega
    rw [hgr] at Lr
    go_wp2_with (first
        | (refine wpList_cap_zero rfl rfl ?_; intro wa1 hba hwa hsa; rw [hgr] at hba hwa hsa; try rw [hgr]; have Br := hide hba; replace Lc := hide (Lc.out.below hwa (by omega)); replace Lr := hide (Lr.out.below hwa (by omega)); replace Bc := hide (Bc.out.below hwa (by omega)); replace HW := hide (HW.out.trans (hwa.mono (by omega))); have hza1 : gr + 1 ≤ wa1.heap.size := (by omega); clear hba hwa hsa)
        | (refine wpList_cap_putAll _ _ rfl rfl rfl Br.out Cr lr EVr.out.symm WR.out.keyL WR.out.fpL LOr.out ?_; intro ws1 hbs hgs hss; have hbt := (Below.refl gr _).grown hgs (by have := Br.out.lt; omega) (by intro k hk; simp at hk; omega); replace Lc := hide (Lc.out.below hbt (by omega)); replace Bc := hide (Bc.out.grown hgs (by intro h; injection h with h; omega)); replace HW := hide (HW.out.grown hgs HW.out.size (by intro k hk; simp at hk; omega)); replace Lr := hide (Lr.out.below hbt (by omega)); clear hbt; replace Br := hide hbs; have hzs1 : gr + 1 ≤ ws1.heap.size := (by omega); clear hbs hgs hss)
        | (refine wpList_cap_all _ rfl rfl rfl Bc.out ?_; rw [EVc.out]))
    have hcall := ReadOnly_ref C lq _ HWF.out (Lc.out.more (by omega)) hlitn
    rw [EVc.out, HCR.out, HE1.out] at hcall
    refine hcall.mono ?_
    clear hcall
    rintro e wc2 ⟨ls, rfl, hl, hb⟩
    have hz2 := hb.size
    replace Lc := hide (Lc.out.below hb (by have := Bc.out.lt; omega))
    replace Lr := hide (Lr.out.below hb (by have := Br.out.lt; omega))
    replace Bc := hide (Bc.out.below hb Bc.out.lt)
    replace Br := hide (Br.out.below hb Br.out.lt)
    replace HW := hide (HW.out.trans (hb.mono HW.out.size))
    have Ls := hide hl
    have LOs := hide hl.one
    clear hl
    clear hb
    obtain ⟨Vs, EVs⟩ : ∃ x, Hid (capV Cr ls = x) := ⟨_, hide rfl⟩
    rw [EVs.out]
    obtain ⟨gs, hgs⟩ : ∃ n, wc2.heap.size = n := ⟨_, rfl⟩
    have hwgs : w.heap.size ≤ gs := by have := HW.out.size; omega
    have hgcgs : gc < gs := by have := Bc.out.lt; omega
    have hgrgs : gr < gs := by have := Br.out.lt; omega
    rw [hgs] at Ls
    go_wp2_with (first
        | (refine wpList_cap_zero rfl rfl ?_; intro wa2 hba hwa hsa; rw [hgs] at hba hwa hsa; try rw [hgs]; have Bs := hide hba; replace Lc := hide (Lc.out.below hwa (by omega)); replace Lr := hide (Lr.out.below hwa (by omega)); replace Ls := hide (Ls.out.below hwa (by omega)); replace Bc := hide (Bc.out.below hwa (by omega)); replace Br := hide (Br.out.below hwa (by omega)); replace HW := hide (HW.out.trans (hwa.mono (by omega))); have hza2 : gs + 1 ≤ wa2.heap.size := (by omega); clear hba hwa hsa)
        | (refine wpList_cap_putAll _ _ rfl rfl rfl Bs.out Cr ls EVs.out.symm WR.out.keyL WR.out.fpL LOs.out ?_; intro ws2 hbs hgs hss; have hbt := (Below.refl gs _).grown hgs (by have := Bs.out.lt; omega) (by intro k hk; simp at hk; omega); replace Lc := hide (Lc.out.below hbt (by omega)); replace Lr := hide (Lr.out.below hbt (by omega)); replace Bc := hide (Bc.out.grown hgs (by intro h; injection h with h; omega)); replace Br := hide (Br.out.grown hgs (by intro h; injection h with h; omega)); replace HW := hide (HW.out.grown hgs HW.out.size (by intro k hk; simp at hk; omega)); replace Ls := hide (Ls.out.below hbt (by omega)); clear hbt; replace Bs := hide hbs; have hzs2 : gs + 1 ≤ ws2.heap.size := (by omega); clear hbs hgs hss)
        | (refine wpList_cap_all _ rfl rfl rfl Bc.out ?_; rw [EVc.out]))
    have hcall := VerifyOnly_any C lq _ HWF.out (Lc.out.more (by omega)) hlitn ((HT.out.below HW.out (Nat.le_refl _)).more HW.out.size)
    rw [EVc.out, HCV.out, HE2.out] at hcall
    refine hcall.mono ?_
    clear hcall
    rintro e wc3 ⟨lv, rfl, hl, hb⟩
    have hz3 := hb.size
    replace Lc := hide (Lc.out.below hb (by have := Bc.out.lt; omega))
    replace Lr := hide (Lr.out.below hb (by have := Br.out.lt; omega))
    replace Ls := hide (Ls.out.below hb (by have := Bs.out.lt; omega))
    replace Bc := hide (Bc.out.below hb Bc.out.lt)
    replace Br := hide (Br.out.below hb Br.out.lt)
    replace Bs := hide (Bs.out.below hb Bs.out.lt)
    replace HW := hide (HW.out.trans (hb.mono HW.out.size))
    have Lv := hide hl
    have LOv := hide hl.one
    clear hl
    clear hb
    obtain ⟨Vv, EVv⟩ : ∃ x, Hid (capV Cv lv = x) := ⟨_, hide rfl⟩
    rw [EVv.out]
    obtain ⟨gv, hgv⟩ : ∃ n, wc3.heap.size = n := ⟨_, rfl⟩
    have hwgv : w.heap.size ≤ gv := by have := HW.out.size; omega
    have hgcgv : gc < gv := by have := Bc.out.lt; omega
    have hgrgv : gr < gv := by have := Br.out.lt; omega
    have hgsgv : gs < gv := by have := Bs.out.lt; omega
    rw [hgv] at Lv
    go_wp2_with (first
        | (refine wpList_cap_zero rfl rfl ?_; intro wa3 hba hwa hsa; rw [hgv] at hba hwa hsa; try rw [hgv]; have Bv := hide hba; replace Lc := hide (Lc.out.below hwa (by omega)); replace Lr := hide (Lr.out.below hwa (by omega)); replace Ls := hide (Ls.out.below hwa (by omega)); replace Lv := hide (Lv.out.below hwa (by omega)); replace Bc := hide (Bc.out.below hwa (by omega)); replace Br := hide (Br.out.below hwa (by omega)); replace Bs := hide (Bs.out.below hwa (by omega)); replace HW := hide (HW.out.trans (hwa.mono (by omega))); have hza3 : gv + 1 ≤ wa3.heap.size := (by omega); clear hba hwa hsa)
        | (refine wpList_cap_putAll _ _ rfl rfl rfl Bv.out Cv lv EVv.out.symm WV.out.keyL WV.out.fpL LOv.out ?_; intro ws3 hbs hgs hss; have hbt := (Below.refl gv _).grown hgs (by have := Bv.out.lt; omega) (by intro k hk; simp at hk; omega); replace Lc := hide (Lc.out.below hbt (by omega)); replace Lr := hide (Lr.out.below hbt (by omega)); replace Ls := hide (Ls.out.below hbt (by omega)); replace Bc := hide (Bc.out.grown hgs (by intro h; injection h with h; omega)); replace Br := hide (Br.out.grown hgs (by intro h; injection h with h; omega)); replace Bs := hide (Bs.out.grown hgs (by intro h; injection h with h; omega)); replace HW := hide (HW.out.grown hgs HW.out.size (by intro k hk; simp at hk; omega)); replace Lv := hide (Lv.out.below hbt (by omega)); clear hbt; replace Bv := hide hbs; have hzs3 : gv + 1 ≤ ws3.heap.size := (by omega); clear hbs hgs hss)
        | (refine wpList_cap_all _ rfl rfl rfl Bc.out ?_; rw [EVc.out]))
    have hcall := VerifyOnly_ref C lq _ HWF.out (Lc.out.more (by omega)) hlitn
    rw [EVc.out, HCV.out, HE2.out] at hcall
    refine hcall.mono ?_
    clear hcall
    rintro e wc4 ⟨lx, rfl, hl, hb⟩
    have hz4 := hb.size
    replace Lc := hide (Lc.out.below hb (by have := Bc.out.lt; omega))
    replace Lr := hide (Lr.out.below hb (by have := Br.out.lt; omega))
    replace Ls := hide (Ls.out.below hb (by have := Bs.out.lt; omega))
    replace Lv := hide (Lv.out.below hb (by have := Bv.out.lt; omega))
    replace Bc := hide (Bc.out.below hb Bc.out.lt)
    replace Br := hide (Br.out.below hb Br.out.lt)
    replace Bs := hide (Bs.out.below hb Bs.out.lt)
    replace Bv := hide (Bv.out.below hb Bv.out.lt)
    replace HW := hide (HW.out.trans (hb.mono HW.out.size))
    have Lx := hide hl
    have LOx := hide hl.one
    clear hl
    clear hb
    obtain ⟨Vx, EVx⟩ : ∃ x, Hid (capV Cv lx = x) := ⟨_, hide rfl⟩
    rw [EVx.out]
    obtain ⟨gx, hgx⟩ : ∃ n, wc4.heap.size = n := ⟨_, rfl⟩
    have hwgx : w.heap.size ≤ gx := by have := HW.out.size; omega
    have hgcgx : gc < gx := by have := Bc.out.lt; omega
    have hgrgx : gr < gx := by have := Br.out.lt; omega
    have hgsgx : gs < gx := by have := Bs.out.lt; omega
    have hgvgx : gv < gx := by have := Bv.out.lt; omega
    rw [hgx] at Lx
    go_wp2_with (first
        | (refine wpList_cap_zero rfl rfl ?_; intro wa4 hba hwa hsa; rw [hgx] at hba hwa hsa; try rw [hgx]; have Bx := hide hba; replace Lc := hide (Lc.out.below hwa (by omega)); replace Lr := hide (Lr.out.below hwa (by omega)); replace Ls := hide (Ls.out.below hwa (by omega)); replace Lv := hide (Lv.out.below hwa (by omega)); replace Lx := hide (Lx.out.below hwa (by omega)); replace Bc := hide (Bc.out.below hwa (by omega)); replace Br := hide (Br.out.below hwa (by omega)); replace Bs := hide (Bs.out.below hwa (by omega)); replace Bv := hide (Bv.out.below hwa (by omega)); replace HW := hide (HW.out.trans (hwa.mono (by omega))); have hza4 : gx + 1 ≤ wa4.heap.size := (by omega); clear hba hwa hsa)
        | (refine wpList_cap_putAll _ _ rfl rfl rfl Bx.out Cv lx EVx.out.symm WV.out.keyL WV.out.fpL LOx.out ?_; intro ws4 hbs hgs hss; have hbt := (Below.refl gx _).grown hgs (by have := Bx.out.lt; omega) (by intro k hk; simp at hk; omega); replace Lc := hide (Lc.out.below hbt (by omega)); replace Lr := hide (Lr.out.below hbt (by omega)); replace Ls := hide (Ls.out.below hbt (by omega)); replace Lv := hide (Lv.out.below hbt (by omega)); replace Bc := hide (Bc.out.grown hgs (by intro h; injection h with h; omega)); replace Br := hide (Br.out.grown hgs (by intro h; injection h with h; omega)); replace Bs := hide (Bs.out.grown hgs (by intro h; injection h with h; omega)); replace Bv := hide (Bv.out.grown hgs (by intro h; injection h with h; omega)); replace HW := hide (HW.out.grown hgs HW.out.size (by intro k hk; simp at hk; omega)); replace Lx := hide (Lx.out.below hbt (by omega)); clear hbt; replace Bx := hide hbs; have hzs4 : gx + 1 ≤ ws4.heap.size := (by omega); clear hbs hgs hss)
        | (refine wpList_cap_all _ rfl rfl rfl Bc.out ?_; rw [EVc.out]))
    have hcall := Index_any C lq _ HWF.out (Lc.out.more (by omega)) hlitn ((HT.out.below HW.out (Nat.le_refl _)).more HW.out.size)
    rw [EVc.out, HIX.out, HE2.out] at hcall
    refine hcall.mono ?_
    clear hcall
    rintro e wc5 ⟨rfl, hb⟩
    have hz5 := hb.size
    replace Lc := hide (Lc.out.below hb (by have := Bc.out.lt; omega))
    replace Lr := hide (Lr.out.below hb (by have := Br.out.lt; omega))
    replace Ls := hide (Ls.out.below hb (by have := Bs.out.lt; omega))
    replace Lv := hide (Lv.out.below hb (by have := Bv.out.lt; omega))
    replace Lx := hide (Lx.out.below hb (by have := Bx.out.lt; omega))
    replace Bc := hide (Bc.out.below hb Bc.out.lt)
    replace Br := hide (Br.out.below hb Br.out.lt)
    replace Bs := hide (Bs.out.below hb Bs.out.lt)
    replace Bv := hide (Bv.out.below hb Bv.out.lt)
    replace Bx := hide (Bx.out.below hb Bx.out.lt)
    replace HW := hide (HW.out.trans (hb.mono HW.out.size))
    clear hb
    obtain ⟨gi, hgi⟩ : ∃ n, wc5.heap.size = n := ⟨_, rfl⟩
    have hwgi : w.heap.size ≤ gi := by have := HW.out.size; omega
    have hgcgi : gc < gi := by have := Bc.out.lt; omega
    have hgrgi : gr < gi := by have := Br.out.lt; omega
    have hgsgi : gs < gi := by have := Bs.out.lt; omega
    have hgvgi : gv < gi := by have := Bv.out.lt; omega
    have hgxgi : gx < gi := by have := Bx.out.lt; omega
    go_wp2_with (first
        | (refine wpList_alloc_blk rfl 23 rfl _ zero_key ?_; intro wa5 hba hwa hsa; rw [hgi] at hba hwa hsa; try rw [hgi]; have Bi := hide hba; replace Lc := hide (Lc.out.below hwa (by omega)); replace Lr := hide (Lr.out.below hwa (by omega)); replace Ls := hide (Ls.out.below hwa (by omega)); replace Lv := hide (Lv.out.below hwa (by omega)); replace Lx := hide (Lx.out.below hwa (by omega)); replace Bc := hide (Bc.out.below hwa (by omega)); replace Br := hide (Br.out.below hwa (by omega)); replace Bs := hide (Bs.out.below hwa (by omega)); replace Bv := hide (Bv.out.below hwa (by omega)); replace Bx := hide (Bx.out.below hwa (by omega)); replace HW := hide (HW.out.trans (hwa.mono (by omega))); have hza5 : gi + 1 ≤ wa5.heap.size := (by omega); clear hba hwa hsa)
        | (refine wpList_store_blk rfl 23 _ _ rfl gi 0 (u8s IX) rfl (by exact rfl) _ _ Bi.out (by rw [u8s_len, u8s_len, HIXL.out]; simp) (by rw [u8s_len, HIXL.out]; exact size_key) (u8s_one _) ?_; intro ws5 hbs hgs hss; rw [lset_all _ _ (by rw [u8s_len, u8s_len, HIXL.out]; rfl)] at hbs; have hbt := (Below.refl gi _).grown hgs (by have := Bi.out.lt; omega) (by intro k hk; simp at hk; omega); replace Lc := hide (Lc.out.below hbt (by omega)); replace Lr := hide (Lr.out.below hbt (by omega)); replace Ls := hide (Ls.out.below hbt (by omega)); replace Lv := hide (Lv.out.below hbt (by omega)); replace Lx := hide (Lx.out.below hbt (by omega)); replace Bc := hide (Bc.out.grown hgs (by intro h; injection h with h; omega)); replace Br := hide (Br.out.grown hgs (by intro h; injection h with h; omega)); replace Bs := hide (Bs.out.grown hgs (by intro h; injection h with h; omega)); replace Bv := hide (Bv.out.grown hgs (by intro h; injection h with h; omega)); replace Bx := hide (Bx.out.grown hgs (by intro h; injection h with h; omega)); replace HW := hide (HW.out.grown hgs HW.out.size (by intro k hk; simp at hk; omega)); clear hbt; replace Bi := hide hbs; have hzs5 : gi + 1 ≤ ws5.heap.size := (by omega); clear hbs hgs hss)
        | (refine wpList_cap_all _ rfl rfl rfl Bc.out ?_; rw [EVc.out]))
    have hcall := Index_ref C lq _ HWF.out (Lc.out.more (by omega)) hlitn
    rw [EVc.out, HIX.out, HE2.out] at hcall
    refine hcall.mono ?_
    clear hcall
    rintro e wc6 ⟨rfl, hb⟩
    have hz6 := hb.size
    replace Lc := hide (Lc.out.below hb (by have := Bc.out.lt; omega))
    replace Lr := hide (Lr.out.below hb (by have := Br.out.lt; omega))
    replace Ls := hide (Ls.out.below hb (by have := Bs.out.lt; omega))
    replace Lv := hide (Lv.out.below hb (by have := Bv.out.lt; omega))
    replace Lx := hide (Lx.out.below hb (by have := Bx.out.lt; omega))
    replace Bc := hide (Bc.out.below hb Bc.out.lt)
    replace Br := hide (Br.out.below hb Br.out.lt)
    replace Bs := hide (Bs.out.below hb Bs.out.lt)
    replace Bv := hide (Bv.out.below hb Bv.out.lt)
    replace Bx := hide (Bx.out.below hb Bx.out.lt)
    replace Bi := hide (Bi.out.below hb Bi.out.lt)
    replace HW := hide (HW.out.trans (hb.mono HW.out.size))
    clear hb
    obtain ⟨gk, hgk⟩ : ∃ n, wc6.heap.size = n := ⟨_, rfl⟩
    have hwgk : w.heap.size ≤ gk := by have := HW.out.size; omega
    have hgcgk : gc < gk := by have := Bc.out.lt; omega
    have hgrgk : gr < gk := by have := Br.out.lt; omega
    have hgsgk : gs < gk := by have := Bs.out.lt; omega
    have hgvgk : gv < gk := by have := Bv.out.lt; omega
    have hgxgk : gx < gk := by have := Bx.out.lt; omega
    have hgigk : gi < gk := by have := Bi.out.lt; omega
    go_wp2_with (first
        | go_skip
        | (refine wpList_alloc_blk rfl 23 rfl _ zero_key ?_; intro wa6 hba hwa hsa; rw [hgk] at hba hwa hsa; try rw [hgk]; have Bk := hide hba; replace Lc := hide (Lc.out.below hwa (by omega)); replace Lr := hide (Lr.out.below hwa (by omega)); replace Ls := hide (Ls.out.below hwa (by omega)); replace Lv := hide (Lv.out.below hwa (by omega)); replace Lx := hide (Lx.out.below hwa (by omega)); replace Bc := hide (Bc.out.below hwa (by omega)); replace Br := hide (Br.out.below hwa (by omega)); replace Bs := hide (Bs.out.below hwa (by omega)); replace Bv := hide (Bv.out.below hwa (by omega)); replace Bx := hide (Bx.out.below hwa (by omega)); replace Bi := hide (Bi.out.below hwa (by omega)); replace HW := hide (HW.out.trans (hwa.mono (by omega))); have hza6 : gk + 1 ≤ wa6.heap.size := (by omega); clear hba hwa hsa)
        | (refine wpList_store_blk rfl 23 _ _ rfl gk 0 (u8s IX) rfl (by exact rfl) _ _ Bk.out (by rw [u8s_len, u8s_len, HIXL.out]; simp) (by rw [u8s_len, HIXL.out]; exact size_key) (u8s_one _) ?_; intro ws6 hbs hgs hss; rw [lset_all _ _ (by rw [u8s_len, u8s_len, HIXL.out]; rfl)] at hbs; have hbt := (Below.refl gk _).grown hgs (by have := Bk.out.lt; omega) (by intro k hk; simp at hk; omega); replace Lc := hide (Lc.out.below hbt (by omega)); replace Lr := hide (Lr.out.below hbt (by omega)); replace Ls := hide (Ls.out.below hbt (by omega)); replace Lv := hide (Lv.out.below hbt (by omega)); replace Lx := hide (Lx.out.below hbt (by omega)); replace Bc := hide (Bc.out.grown hgs (by intro h; injection h with h; omega)); replace Br := hide (Br.out.grown hgs (by intro h; injection h with h; omega)); replace Bs := hide (Bs.out.grown hgs (by intro h; injection h with h; omega)); replace Bv := hide (Bv.out.grown hgs (by intro h; injection h with h; omega)); replace Bx := hide (Bx.out.grown hgs (by intro h; injection h with h; omega)); replace Bi := hide (Bi.out.grown hgs (by intro h; injection h with h; omega)); replace HW := hide (HW.out.grown hgs HW.out.size (by intro k hk; simp at hk; omega)); clear hbt; replace Bk := hide hbs; have hzs6 : gk + 1 ≤ ws6.heap.size := (by omega); clear hbs hgs hss)
        | (refine wpList_cap_all _ rfl rfl rfl Br.out ?_; rw [EVr.out])
        | (refine wpList_cap_all _ rfl rfl rfl Bs.out ?_; rw [EVs.out]))
    have hcall := same_cap Cr Cr lr ls _ WR.out.keyL WR.out.fpL WR.out.keyL WR.out.fpL (Lr.out.more (by omega)) (Ls.out.more (by omega)) WR.out.litB WR.out.litB
    rw [EVr.out, EVs.out, HSR.out] at hcall
    refine hcall.mono ?_
    clear hcall
    rintro e wc7 ⟨rfl, hb⟩
    have hz7 := hb.size
    replace Lc := hide (Lc.out.below hb (by have := Bc.out.lt; omega))
    replace Lr := hide (Lr.out.below hb (by have := Br.out.lt; omega))
    replace Ls := hide (Ls.out.below hb (by have := Bs.out.lt; omega))
    replace Lv := hide (Lv.out.below hb (by have := Bv.out.lt; omega))
    replace Lx := hide (Lx.out.below hb (by have := Bx.out.lt; omega))
    replace Bc := hide (Bc.out.below hb Bc.out.lt)
    replace Br := hide (Br.out.below hb Br.out.lt)
    replace Bs := hide (Bs.out.below hb Bs.out.lt)
    replace Bv := hide (Bv.out.below hb Bv.out.lt)
    replace Bx := hide (Bx.out.below hb Bx.out.lt)
    replace Bi := hide (Bi.out.below hb Bi.out.lt)
    replace Bk := hide (Bk.out.below hb Bk.out.lt)
    replace HW := hide (HW.out.trans (hb.mono HW.out.size))
    clear hb
    go_wp2_with (first
        | go_skip
        | (refine wpList_cap_all _ rfl rfl rfl Bv.out ?_; rw [EVv.out])
        | (refine wpList_cap_all _ rfl rfl rfl Bx.out ?_; rw [EVx.out]))
    have hcall := same_cap Cv Cv lv lx _ WV.out.keyL WV.out.fpL WV.out.keyL WV.out.fpL (Lv.out.more (by omega)) (Lx.out.more (by omega)) WV.out.litB WV.out.litB
    rw [EVv.out, EVx.out, HSV.out] at hcall
    refine hcall.mono ?_
    clear hcall
    rintro e wc8 ⟨rfl, hb⟩
    have hz8 := hb.size
    replace Lc := hide (Lc.out.below hb (by have := Bc.out.lt; omega))
    replace Lr := hide (Lr.out.below hb (by have := Br.out.lt; omega))
    replace Ls := hide (Ls.out.below hb (by have := Bs.out.lt; omega))
    replace Lv := hide (Lv.out.below hb (by have := Bv.out.lt; omega))
    replace Lx := hide (Lx.out.below hb (by have := Bx.out.lt; omega))
    replace Bc := hide (Bc.out.below hb Bc.out.lt)
    replace Br := hide (Br.out.below hb Br.out.lt)
    replace Bs := hide (Bs.out.below hb Bs.out.lt)
    replace Bv := hide (Bv.out.below hb Bv.out.lt)
    replace Bx := hide (Bx.out.below hb Bx.out.lt)
    replace Bi := hide (Bi.out.below hb Bi.out.lt)
    replace Bk := hide (Bk.out.below hb Bk.out.lt)
    replace HW := hide (HW.out.trans (hb.mono HW.out.size))
    clear hb
    go_wp2_with (first
        | go_skip
        | (refine wpList_load_key rfl _ rfl rfl Bi.out HIXL.out ?_)
        | (refine wpList_load_key rfl _ rfl rfl Bk.out HIXL.out ?_)
        | (refine wpList_eql_key _ _ _ rfl IX IX rfl rfl rfl HIXL.out HIXL.out true (by simp) ?_))
    have hcall := wakes13 _ ((HT.out.below HW.out (Nat.le_refl _)).more HW.out.size)
    refine hcall.mono ?_
    clear hcall
    rintro e wc9 ⟨rfl, hb⟩
    have hz9 := hb.size
    replace Lc := hide (Lc.out.below hb (by have := Bc.out.lt; omega))
    replace Lr := hide (Lr.out.below hb (by have := Br.out.lt; omega))
    replace Ls := hide (Ls.out.below hb (by have := Bs.out.lt; omega))
    replace Lv := hide (Lv.out.below hb (by have := Bv.out.lt; omega))
    replace Lx := hide (Lx.out.below hb (by have := Bx.out.lt; omega))
    replace Bc := hide (Bc.out.below hb Bc.out.lt)
    replace Br := hide (Br.out.below hb Br.out.lt)
    replace Bs := hide (Bs.out.below hb Bs.out.lt)
    replace Bv := hide (Bv.out.below hb Bv.out.lt)
    replace Bx := hide (Bx.out.below hb Bx.out.lt)
    replace Bi := hide (Bi.out.below hb Bi.out.lt)
    replace Bk := hide (Bk.out.below hb Bk.out.lt)
    replace HW := hide (HW.out.trans (hb.mono HW.out.size))
    clear hb
    go_wp2_with fail
    go_ret
    exact ⟨rfl, HW.out⟩
set_option maxRecDepth 100000 in
theorem lifted (os : Os) (started : os.Started) (H : Type) (enc : TypeId × Value → H) :
    ReturnsInHanded {} Tryd.checked os 9 .any (fun w args => (Rows.capsLessSpec.pre enc Tryd.prog Tryd.f9 [] false w args ∧ laidMetH Tryd.prog laidD w) ∧ sizedMet enc Tryd.prog Tryd.f9 (OpenSpec.ofChange Rows.capsLessSpec) false w args)
      (Rows.capsLessSpec.post enc Tryd.prog Tryd.f9 false true false false) := by
  refine returnsInHanded_of_change_and (C := Tryd.checked) (X := fun w _ => laidMetH Tryd.prog laidD w) (fun _ _ _ hh h => h.of_heap hh) own started (by kernel_rfl) Tryd.func9
    (ChangeSpec.witness_shaped (enc := enc) (C := Tryd.checked) (os := os) (X := fun w _ => laidMetH Tryd.prog laidD w) false (World.doorLaid Tryd.prog doorSteps os) #[capV CapD.none_ (.slice none 0 0), .bool false] 8 rfl (World.shaped_of_RefB (by kernel_rfl) (by kernel_rfl)) (by kernel_rfl) (by kernel_rfl) (by kernel_rfl) (door_met os _)) ?_
  intro W base args ds gs before hval0 hW _ _ hL _
  have hT := tab_of hL
  have hval : ∀ (j : Nat) t v, Tryd.f9.params[j]? = some t → args[j]? = some v → Value.okWide Tryd.prog W .any base t v := hval0
  have hW' := hW
  obtain ⟨p, q, hA0, hV, rfl, hfz, hnd⟩ := hW
  have hA : DataW.TrodAll enc Tryd.prog W 0 (fun _ => true) true Tryd.f9.params.toList args.toList ds p := hA0
  rw [Tryd.params9] at hA hval
  obtain ⟨v0, vs0, d0, ds0, p0, q0, hargs, rfl, rfl, h0, r0⟩ := trodAll_cons hA
  obtain ⟨v1, vs1, d1, ds1, p1, q1, rfl, rfl, rfl, h1, r1⟩ := trodAll_cons r0
  obtain ⟨rfl, rfl, rfl⟩ := trodAll_nil r1
  obtain rfl : args = #[v0, v1] := by cases args; simp_all
  obtain ⟨rfl, rfl⟩ := trodVars_none hV
  have k0 := h0
  have lt0 : ∀ x ∈ p0, x.block < W.heap.size := by obtain ⟨m, hm⟩ := k0; exact DataW.trod_lt m _ _ _ hm
  obtain ⟨z0, l0, rfl, w0, b0⟩ := read_cap (hval 0 28 v0 rfl rfl) h0
  obtain ⟨a1, rfl, rfl, rfl⟩ := open_bool Tryd.underlying4 (hval 1 4 v1 rfl rfl) h1
  clear hA0 hval0
  refine (walk W hT z0 l0 w0 b0 a1).mono fun e W' ⟨he, bel⟩ => ?_
  subst he
  exact ⟨_, rfl, _, _, _, [], _, [], hW', trodAll_mk1 (shut_bool Tryd.underlying4 _), (trodAll_cons_mk (Below.trod laidOut (by kernel_rfl) (of_decide_eq_true (by kernel_rfl)) k0 bel lt0) (trodAll_cons_mk (shut_bool Tryd.underlying4 _) trodAll_mk0)), rfl, bel.frame _, fun h => by cases h⟩

theorem over : Rows.capsLessRow.holds Tryd.pinned (OpenSpec.ofChange Rows.capsLessSpec) :=
  OpenClaim.holds_of_wide 9 Tryd.f9 rfl rfl rfl rfl rfl rfl rfl ⟨rfl, rfl, rfl, rfl, rfl⟩ rfl rfl rfl rfl rfl (by kernel_rfl) Tryd.func9 (by kernel_rfl)
    (of_decide_eq_true (by kernel_rfl)) (by unfold Func.isWrapper; rw [if_neg (of_decide_eq_false (by kernel_rfl))]; exact ⟨rfl, rfl⟩)
    (fun os started H enc _ => lifted os started H enc)

theorem proved : Rows.CapsLessCardSaid :=
  Claim7.holds_tied_plain_at .later [] Rows.capsLessCard.laidKinds true Rows.capsLessCard.stood.harness Rows.capsLessCard.stood.looks
    over (fun _ h => by cases h) (by kernel_rfl) (fun _ h => by cases h) capsLess_row_tie rfl ⟨rfl, rfl⟩ (by kernel_rfl) rfl
    (fun f fn hf hfn => by
      obtain rfl : f = 9 := Option.some.inj ((show Tryd.prog.funcNamed "aumbry/aumbrylaw13.CapsLess" = some 9 by kernel_rfl).symm.trans hf) |>.symm
      obtain rfl : fn = Tryd.f9 := (Option.some.inj (Tryd.func9.symm.trans hfn)).symm
      exact ⟨by kernel_rfl, fun j t ht => by
        have ht' : Tryd.f9.params[j]? = some t := ht
        rw [Tryd.params9] at ht'
        have hm : t ∈ [28, 4] := by simpa using Array.mem_of_getElem? ht'
        have hall : ([28, 4].all fun u => !Tryd.prog.wantsStandIn u) = true := by kernel_rfl
        exact (show Tryd.prog.wantsStandIn t = false by simpa using List.all_eq_true.1 hall t hm)⟩)
    (by kernel_rfl)
end Go.Proofs.YtgjepahhbecljaaDoor.LawCapsLess
