/- dirs.Right: may there be such a directory? Condition: the table of powers of ten stands; at most a million entries, with literals of at most a million bytes. -/
import Derived.Test.YthdjgebbjogmiaaDoorJoin20
set_option linter.unusedVariables false
set_option linter.unusedSimpArgs false
namespace Go.Proofs.YthdjgebbjogmiaaDoor
open Go Go.RowKit
set_option linter.unusedVariables false
set_option linter.unusedSimpArgs false
set_option maxRecDepth 100000
/-- The name ahead of the i-th. -/
def prevN (l : List EntD) (i : Nat) : Option (List Int) := if i = 0 then none else (l[i - 1]?).map EntD.name
theorem prevN_next (l : List EntD) (i : Nat) (h : i < l.length) : prevN l (i + 1) = some l[i].name := by
 unfold prevN
 rw [if_neg (by omega), Nat.add_sub_cancel, List.getElem?_eq_getElem h]
 rfl
theorem rightG_at (l : List EntD) (i : Nat) (h : i < l.length) : rightG (prevN l i) (l.drop i) = (oneB l[i] && (headG (prevN l i) l[i].name && rightG (prevN l (i + 1)) (l.drop (i + 1)))) := by
 rw [List.drop_eq_getElem_cons h, prevN_next l i h, rightG]
set_option maxHeartbeats 8000000
theorem dright_any (v : Value) (l : List EntD) (w : World) (hv : EntsB w w.heap.size v l) (hlit : ∀ e ∈ l, e.read.lit.length ≤ 1000000 ∧ e.write.lit.length ≤ 1000000) (hn : l.length ≤ 1000000) (ht : Tab w w.heap.size) :
 Calls Tryd.prog 21 #[v] w fun r w' => r = .returned (.bool (rightB l)) ∧ Below w.heap.size w w' := by
 have HT := hide ht
 have HLIT := hide hlit
 obtain ⟨A, c, rfl, h1, h2, h3⟩ := hv
 unfold maxLen at h2
 have HA := hide h3
 obtain ⟨r0, HR0⟩ : ∃ b, Hid (rightB l = b) := ⟨_, hide rfl⟩
 rw [HR0.out]
 have HRB := hide (show r0 = (rightG none l && decide (l.length ≤ 16)) by rw [← HR0.out]; rfl)
 obtain ⟨n, HN⟩ : ∃ k, Hid (l.length = k) := ⟨_, hide rfl⟩
 rw [HN.out] at h1 hn ⊢
 have HBe := hide (Below.refl w.heap.size w)
 clear h3 hlit ht HR0
 go_enter Tryd.func21, Tryd.ntmps21
 go_wp2_with fail
 go_loopw [7] (fun v7 wr => ∃ i : Nat, v7 = .int .i64 (i : Int) ∧ i ≤ n ∧ rightG none l = rightG (prevN l i) (l.drop i) ∧ Below w.heap.size w wr) (fun v7 _ => n - (intOf v7).toNat)
 case atStart => exact ⟨0, by go_num, by omega, by rfl, HBe.out⟩
 case round =>
  obtain ⟨i, rfl, hin, hg, hb⟩ := hrel
  have HG := hide hg
  have HB := hide hb
  have hzr := hb.size
  clear hg hb
  by_cases hlt : i < n
  · have hlt' : (i : Int) < (n : Int) := by omega
    obtain ⟨b, o, rfl, hbb, hca⟩ := HA.out (by rw [HN.out]; omega)
    obtain ⟨lr, lw, hok, hrg⟩ := hca i (by rw [HN.out]; exact hlt)
    have HPREV := hide (fun (_ : Nat) (h : 0 < i) => show ∃ lr lw, EntOk w w.heap.size (l[i - 1]'(by rw [HN.out]; omega)) lr lw ∧ w.rangeAt b (o + (i - 1) * 108) (entC (l[i - 1]'(by rw [HN.out]; omega)) lr lw) from hca (i - 1) (by rw [HN.out]; omega))
    have HAT := hide (rightG_at l i (by rw [HN.out]; exact hlt))
    have hli := HLIT.out _ (List.getElem_mem (show i < l.length by rw [HN.out]; exact hlt))
    obtain ⟨x, HX⟩ : ∃ x, Hid (l[i]'(by rw [HN.out]; exact hlt) = x) := ⟨_, hide rfl⟩
    rw [HX.out] at hok hrg HAT hli
    have HOK := hide hok
    have HSZ := hide (show (Tryd.prog.info? 45).map (·.size) = some (entC x lr lw).length by rw [ent_len hok]; exact size_ent)
    have HRG := hide (fun (j : Nat) (u : Value) (hu : (entC x lr lw)[j]? = some u) => show _ = some u from (HB.out.cell (p := ⟨b, o + i * 108 + j, none⟩) hbb).trans (hrg j u hu))
    have HXB := hide hok.nameB
    have HONES := hide (ent_ones hok)
    have HLI := hide hli
    clear hok hrg hca hli
    obtain ⟨g4, HG4⟩ : ∃ k, Hid (wr.heap.size = k) := ⟨_, hide rfl⟩
    go_upto_region 4 with (first
     | (refine wpList_val_ rfl (exec_loadAll 45 _ rfl b (o + i * 108) rfl _ (entC x lr lw) HRG.out Tryd.underlying45 rfl HSZ.out) ?_)
     | (refine wpList_alloc_blk rfl 45 rfl _ zero_ent ?_; intro w5 hb5 hw5 hs5; rw [HG4.out] at hb5; try rw [HG4.out]; have H4 := hide hb5; replace HB := hide (HB.out.trans (hw5.mono hzr)); clear hb5 hw5)
     | (refine wpList_st_putAll _ _ _ rfl rfl rfl H4.out (entC x lr lw) rfl (by rw [ent_len HOK.out, ent_len (w := w) (B := 0) ⟨EntD.none_wf, Bs.nil_ _ _, Bs.nil_ _ _⟩]) HSZ.out HONES.out ?_; intro wq hb6 hg6 hs6; replace H4 := hide hb6; replace HB := hide (HB.out.grown hg6 (by have := HB.out.size; omega) (by intro k hk; injection hk; have := HG4.out; omega)); clear hb6 hg6))
    try simp only [Act.put]
    have hzq := HB.out.size
    have hg4 : g4 < wq.heap.size := H4.out.lt
    have HNX := hide (show wq.cell? ⟨g4, 0, none⟩ = some (.string (strOfNums x.name)) by rw [H4.out.cell]; rfl)
    have HOKq := hide ((HOK.out.below HB.out (Nat.le_refl _)).more hzq)
    have HTq := hide ((HT.out.below HB.out (Nat.le_refl _)).more hzq)
    obtain ⟨q1, HQ1⟩ : ∃ q, Hid (oneB x = q) := ⟨_, hide rfl⟩
    have HCALL := hide (fun (w' : World) (hS : Below wq.heap.size wq w') => (one_any x lr lw w' ((HOKq.out.below hS (Nat.le_refl _)).more hS.size) HLI.out.1 HLI.out.2 ((HTq.out.below hS (Nat.le_refl _)).more hS.size)).mono (fun e w'' hh => (⟨by rw [hh.1, HQ1.out], hS.trans (hh.2.mono hS.size)⟩ : e = .returned (.bool q1) ∧ Below wq.heap.size wq w'')))
    rw [HQ1.out] at HAT
    rcases q1 with _ | _
    case false =>
     have HF := hide (show r0 = false by rw [HRB.out, HG.out, HAT.out]; rfl)
     refine wp_region_qw (Below wq.heap.size wq) (by kernel_rfl) (by kernel_rfl) (Below.refl _ _).drew ?_
     refine qw_val (v := .agg (entC x lr lw).toArray) 12 rfl (by kernel_rfl) (fun w' hS => exec_loadAll _ _ rfl g4 0 rfl _ _ (fun j u hu => (hS.cell (p := ⟨g4, 0 + j, none⟩) hg4).trans (by rw [H4.out.cell, Nat.zero_add]; exact hu)) Tryd.underlying45 rfl HSZ.out) ?_
     simp only [Act.put, s1_, s2_, s3_]
     refine qw_call (v := .bool false) 13 rfl (by kernel_rfl) 47 #[.agg (entC x lr lw).toArray] (fun w' => exec_call _ _ _ rfl _ (by simp [Act.eval]) (by go_simp)) (fun w' hS => HCALL.out w' hS) ?_
     simp only [Act.put, s1_, s2_, s3_]
     refine qw_val (v := .bool true) 14 rfl (by kernel_rfl) (fun w' hS => exec_notG _ _ rfl false rfl _ rfl) ?_
     simp only [Act.put, s1_, s2_, s3_]
     refine qw_val (v := .bool true) 15 rfl (by kernel_rfl) (fun w' hS => exec_move _ rfl (.bool true) rfl) ?_
     simp only [Act.put, s1_, s2_, s3_]
     refine qw_skip 16 rfl (by kernel_rfl) ?_
     simp only [Act.put, s1_, s2_, s3_]
     refine qw_skip 17 rfl (by kernel_rfl) ?_
     simp only [Act.put, s1_, s2_, s3_]
     refine qw_skip 18 rfl (by kernel_rfl) ?_
     simp only [Act.put, s1_, s2_, s3_]
     refine qw_skip 19 rfl (by kernel_rfl) ?_
     simp only [Act.put, s1_, s2_, s3_]
     refine qw_skip 20 rfl (by kernel_rfl) ?_
     simp only [Act.put, s1_, s2_, s3_]
     refine qw_skip 21 rfl (by kernel_rfl) ?_
     simp only [Act.put, s1_, s2_, s3_]
     refine qw_skip 22 rfl (by kernel_rfl) ?_
     simp only [Act.put, s1_, s2_, s3_]
     refine qw_skip 23 rfl (by kernel_rfl) ?_
     simp only [Act.put, s1_, s2_, s3_]
     refine qw_skip 24 rfl (by kernel_rfl) ?_
     simp only [Act.put, s1_, s2_, s3_]
     refine qw_skip 25 rfl (by kernel_rfl) ?_
     simp only [Act.put, s1_, s2_, s3_]
     refine qw_skip 26 rfl (by kernel_rfl) ?_
     simp only [Act.put, s1_, s2_, s3_]
     refine qw_skip 27 rfl (by kernel_rfl) ?_
     simp only [Act.put, s1_, s2_, s3_]
     refine qw_skip 28 rfl (by kernel_rfl) ?_
     simp only [Act.put, s1_, s2_, s3_]
     refine qw_val (v := .bool true) 29 rfl (by kernel_rfl) (fun w' hS => exec_pickG _ _ _ rfl true rfl _ rfl) ?_
     simp only [Act.put, s1_, s2_, s3_]
     refine qw_nil ?_
     intro w8 hS
     replace HB := hide (HB.out.trans (hS.mono hzq))
     clear hS
     go_wp2_with fail
     go_ret
     exact ⟨by rw [HF.out]; rfl, HB.out⟩
    by_cases hi0 : i = 0
    · have HGT := hide (show decide ((0 : Int) < (i : Int)) = false from decide_eq_false (by omega))
      have HNEXT := hide (show rightG none l = rightG (prevN l (i + 1)) (l.drop (i + 1)) by rw [HG.out, HAT.out, show prevN l i = none from if_pos hi0]; rfl)
      refine wp_region_qw (Below wq.heap.size wq) (by kernel_rfl) (by kernel_rfl) (Below.refl _ _).drew ?_
      refine qw_val (v := .agg (entC x lr lw).toArray) 12 rfl (by kernel_rfl) (fun w' hS => exec_loadAll _ _ rfl g4 0 rfl _ _ (fun j u hu => (hS.cell (p := ⟨g4, 0 + j, none⟩) hg4).trans (by rw [H4.out.cell, Nat.zero_add]; exact hu)) Tryd.underlying45 rfl HSZ.out) ?_
      simp only [Act.put, s1_, s2_, s3_]
      refine qw_call (v := .bool true) 13 rfl (by kernel_rfl) 47 #[.agg (entC x lr lw).toArray] (fun w' => exec_call _ _ _ rfl _ (by simp [Act.eval]) (by go_simp)) (fun w' hS => HCALL.out w' hS) ?_
      simp only [Act.put, s1_, s2_, s3_]
      refine qw_val (v := .bool false) 14 rfl (by kernel_rfl) (fun w' hS => exec_notG _ _ rfl true rfl _ rfl) ?_
      simp only [Act.put, s1_, s2_, s3_]
      refine qw_val (v := .bool false) 15 rfl (by kernel_rfl) (fun w' hS => exec_move _ rfl (.bool false) rfl) ?_
      simp only [Act.put, s1_, s2_, s3_]
      refine qw_val (v := .int .i64 ((i : Int))) 16 rfl (by kernel_rfl) (fun w' hS => exec_move _ rfl (.int .i64 ((i : Int))) rfl) ?_
      simp only [Act.put, s1_, s2_, s3_]
      refine qw_val (v := .bool false) 17 rfl (by kernel_rfl) (fun w' hS => exec_gtr_i64 _ _ _ _ rfl ((i : Int)) 0 rfl rfl _ HGT.out) ?_
      simp only [Act.put, s1_, s2_, s3_]
      refine qw_val (v := .bool false) 18 rfl (by kernel_rfl) (fun w' hS => exec_move _ rfl (.bool false) rfl) ?_
      simp only [Act.put, s1_, s2_, s3_]
      refine qw_skip 19 rfl (by kernel_rfl) ?_
      simp only [Act.put, s1_, s2_, s3_]
      refine qw_skip 20 rfl (by kernel_rfl) ?_
      simp only [Act.put, s1_, s2_, s3_]
      refine qw_skip 21 rfl (by kernel_rfl) ?_
      simp only [Act.put, s1_, s2_, s3_]
      refine qw_skip 22 rfl (by kernel_rfl) ?_
      simp only [Act.put, s1_, s2_, s3_]
      refine qw_skip 23 rfl (by kernel_rfl) ?_
      simp only [Act.put, s1_, s2_, s3_]
      refine qw_skip 24 rfl (by kernel_rfl) ?_
      simp only [Act.put, s1_, s2_, s3_]
      refine qw_skip 25 rfl (by kernel_rfl) ?_
      simp only [Act.put, s1_, s2_, s3_]
      refine qw_skip 26 rfl (by kernel_rfl) ?_
      simp only [Act.put, s1_, s2_, s3_]
      refine qw_skip 27 rfl (by kernel_rfl) ?_
      simp only [Act.put, s1_, s2_, s3_]
      refine qw_val (v := .bool false) 28 rfl (by kernel_rfl) (fun w' hS => exec_pickG _ _ _ rfl false rfl _ rfl) ?_
      simp only [Act.put, s1_, s2_, s3_]
      refine qw_val (v := .bool false) 29 rfl (by kernel_rfl) (fun w' hS => exec_pickG _ _ _ rfl false rfl _ rfl) ?_
      simp only [Act.put, s1_, s2_, s3_]
      refine qw_nil ?_
      intro w8 hS
      replace HB := hide (HB.out.trans (hS.mono hzq))
      clear hS
      go_wp2_with fail
      go_roundw
      case measure => simp [intOf]; omega
      case rel => exact ⟨i + 1, by go_num, by omega, HNEXT.out, HB.out⟩
    have HGT := hide (show decide ((0 : Int) < (i : Int)) = true from decide_eq_true (by omega))
    obtain ⟨lr2, lw2, hok2, hrg2⟩ := HPREV.out 0 (by omega)
    have hpn : prevN l i = some (l[i - 1]'(by rw [HN.out]; omega)).name := by
     unfold prevN
     rw [if_neg hi0, List.getElem?_eq_getElem (by rw [HN.out]; omega)]
     rfl
    obtain ⟨y, HYE⟩ : ∃ x, Hid (l[i - 1]'(by rw [HN.out]; omega) = x) := ⟨_, hide rfl⟩
    rw [HYE.out] at hok2 hrg2 hpn
    have HYB := hide hok2.nameB
    have hbq : b < wq.heap.size := Nat.lt_of_lt_of_le hbb hzq
    have HNY := hide (show _ = some (Value.string (strOfNums y.name)) from (HB.out.cell (p := ⟨b, o + (i - 1) * 108, none⟩) hbb).trans (by have := hrg2 0 _ ent_name; rwa [Nat.add_zero] at this))
    obtain ⟨qg, HQG⟩ : ∃ q, Hid (ltL y.name x.name = !q) := ⟨!(ltL y.name x.name), hide (by rw [Bool.not_not])⟩
    rw [show headG (prevN l i) x.name = !qg by rw [hpn]; exact HQG.out] at HAT
    clear hok2 hrg2 hpn HPREV HYE
    have HGE := HQG
    rcases qg with _ | _
    case false =>
     have HNEXT := hide (show rightG none l = rightG (prevN l (i + 1)) (l.drop (i + 1)) by rw [HG.out, HAT.out]; rfl)
     refine wp_region_qw (Below wq.heap.size wq) (by kernel_rfl) (by kernel_rfl) (Below.refl _ _).drew ?_
     refine qw_val (v := .agg (entC x lr lw).toArray) 12 rfl (by kernel_rfl) (fun w' hS => exec_loadAll _ _ rfl g4 0 rfl _ _ (fun j u hu => (hS.cell (p := ⟨g4, 0 + j, none⟩) hg4).trans (by rw [H4.out.cell, Nat.zero_add]; exact hu)) Tryd.underlying45 rfl HSZ.out) ?_
     simp only [Act.put, s1_, s2_, s3_]
     refine qw_call (v := .bool true) 13 rfl (by kernel_rfl) 47 #[.agg (entC x lr lw).toArray] (fun w' => exec_call _ _ _ rfl _ (by simp [Act.eval]) (by go_simp)) (fun w' hS => HCALL.out w' hS) ?_
     simp only [Act.put, s1_, s2_, s3_]
     refine qw_val (v := .bool false) 14 rfl (by kernel_rfl) (fun w' hS => exec_notG _ _ rfl true rfl _ rfl) ?_
     simp only [Act.put, s1_, s2_, s3_]
     refine qw_val (v := .bool false) 15 rfl (by kernel_rfl) (fun w' hS => exec_move _ rfl (.bool false) rfl) ?_
     simp only [Act.put, s1_, s2_, s3_]
     refine qw_val (v := .int .i64 ((i : Int))) 16 rfl (by kernel_rfl) (fun w' hS => exec_move _ rfl (.int .i64 ((i : Int))) rfl) ?_
     simp only [Act.put, s1_, s2_, s3_]
     refine qw_val (v := .bool true) 17 rfl (by kernel_rfl) (fun w' hS => exec_gtr_i64 _ _ _ _ rfl ((i : Int)) 0 rfl rfl _ HGT.out) ?_
     simp only [Act.put, s1_, s2_, s3_]
     refine qw_val (v := .bool true) 18 rfl (by kernel_rfl) (fun w' hS => exec_move _ rfl (.bool true) rfl) ?_
     simp only [Act.put, s1_, s2_, s3_]
     refine qw_val (v := .slice (some ⟨b, o, none⟩) n c) 19 rfl (by kernel_rfl) (fun w' hS => exec_move _ rfl (.slice (some ⟨b, o, none⟩) n c) rfl) ?_
     simp only [Act.put, s1_, s2_, s3_]
     refine qw_val (v := .int .i64 ((i : Int))) 20 rfl (by kernel_rfl) (fun w' hS => exec_move _ rfl (.int .i64 ((i : Int))) rfl) ?_
     simp only [Act.put, s1_, s2_, s3_]
     refine qw_val (v := .int .i64 (((i - 1 : Nat) : Int))) 21 rfl (by kernel_rfl) (fun w' hS => exec_subG _ _ _ rfl _ _ _ rfl rfl (by omega) (by omega)) ?_
     simp only [Act.put, s1_, s2_, s3_]
     refine qw_val (v := .pointer (some ⟨b, o + (i - 1) * 108, none⟩)) 22 rfl (by kernel_rfl) (fun w' hS => exec_indexG _ _ _ rfl _ n c b o 108 (i - 1) rfl rfl rfl (by omega) (by kernel_rfl) _ (by omega)) ?_
     simp only [Act.put, s1_, s2_, s3_]
     refine qw_val (v := .pointer (some ⟨b, o + (i - 1) * 108, none⟩)) 23 rfl (by kernel_rfl) (fun w' hS => exec_fieldG _ _ 0 0 rfl b (o + (i - 1) * 108) rfl (by kernel_rfl) _ (by first | rfl | omega)) ?_
     simp only [Act.put, s1_, s2_, s3_]
     refine qw_val (v := .string (strOfNums y.name)) 24 rfl (by kernel_rfl) (fun w' hS => exec_load_one _ _ rfl b (o + (i - 1) * 108) rfl _ Tryd.underlying9 rfl _ ((hS.cell (p := ⟨b, o + (i - 1) * 108, none⟩) hbq).trans HNY.out)) ?_
     simp only [Act.put, s1_, s2_, s3_]
     refine qw_val (v := .pointer (some ⟨g4, 0, none⟩)) 25 rfl (by kernel_rfl) (fun w' hS => exec_fieldG _ _ 0 0 rfl g4 0 rfl (by kernel_rfl) _ (by first | rfl | omega)) ?_
     simp only [Act.put, s1_, s2_, s3_]
     refine qw_val (v := .string (strOfNums x.name)) 26 rfl (by kernel_rfl) (fun w' hS => exec_load_one _ _ rfl g4 0 rfl _ Tryd.underlying9 rfl _ ((hS.cell (p := ⟨g4, 0, none⟩) hg4).trans HNX.out)) ?_
     simp only [Act.put, s1_, s2_, s3_]
     refine qw_val (v := .bool false) 27 rfl (by kernel_rfl) (fun w' hS => exec_geq_name _ _ _ rfl y.name x.name rfl rfl HYB.out HXB.out false HGE.out) ?_
     simp only [Act.put, s1_, s2_, s3_]
     refine qw_val (v := .bool false) 28 rfl (by kernel_rfl) (fun w' hS => exec_pickG _ _ _ rfl true rfl _ rfl) ?_
     simp only [Act.put, s1_, s2_, s3_]
     refine qw_val (v := .bool false) 29 rfl (by kernel_rfl) (fun w' hS => exec_pickG _ _ _ rfl false rfl _ rfl) ?_
     simp only [Act.put, s1_, s2_, s3_]
     refine qw_nil ?_
     intro w8 hS
     replace HB := hide (HB.out.trans (hS.mono hzq))
     clear hS
     go_wp2_with fail
     go_roundw
     case measure => simp [intOf]; omega
     case rel => exact ⟨i + 1, by go_num, by omega, HNEXT.out, HB.out⟩
    case true =>
     have HF := hide (show r0 = false by rw [HRB.out, HG.out, HAT.out]; rfl)
     refine wp_region_qw (Below wq.heap.size wq) (by kernel_rfl) (by kernel_rfl) (Below.refl _ _).drew ?_
     refine qw_val (v := .agg (entC x lr lw).toArray) 12 rfl (by kernel_rfl) (fun w' hS => exec_loadAll _ _ rfl g4 0 rfl _ _ (fun j u hu => (hS.cell (p := ⟨g4, 0 + j, none⟩) hg4).trans (by rw [H4.out.cell, Nat.zero_add]; exact hu)) Tryd.underlying45 rfl HSZ.out) ?_
     simp only [Act.put, s1_, s2_, s3_]
     refine qw_call (v := .bool true) 13 rfl (by kernel_rfl) 47 #[.agg (entC x lr lw).toArray] (fun w' => exec_call _ _ _ rfl _ (by simp [Act.eval]) (by go_simp)) (fun w' hS => HCALL.out w' hS) ?_
     simp only [Act.put, s1_, s2_, s3_]
     refine qw_val (v := .bool false) 14 rfl (by kernel_rfl) (fun w' hS => exec_notG _ _ rfl true rfl _ rfl) ?_
     simp only [Act.put, s1_, s2_, s3_]
     refine qw_val (v := .bool false) 15 rfl (by kernel_rfl) (fun w' hS => exec_move _ rfl (.bool false) rfl) ?_
     simp only [Act.put, s1_, s2_, s3_]
     refine qw_val (v := .int .i64 ((i : Int))) 16 rfl (by kernel_rfl) (fun w' hS => exec_move _ rfl (.int .i64 ((i : Int))) rfl) ?_
     simp only [Act.put, s1_, s2_, s3_]
     refine qw_val (v := .bool true) 17 rfl (by kernel_rfl) (fun w' hS => exec_gtr_i64 _ _ _ _ rfl ((i : Int)) 0 rfl rfl _ HGT.out) ?_
     simp only [Act.put, s1_, s2_, s3_]
     refine qw_val (v := .bool true) 18 rfl (by kernel_rfl) (fun w' hS => exec_move _ rfl (.bool true) rfl) ?_
     simp only [Act.put, s1_, s2_, s3_]
     refine qw_val (v := .slice (some ⟨b, o, none⟩) n c) 19 rfl (by kernel_rfl) (fun w' hS => exec_move _ rfl (.slice (some ⟨b, o, none⟩) n c) rfl) ?_
     simp only [Act.put, s1_, s2_, s3_]
     refine qw_val (v := .int .i64 ((i : Int))) 20 rfl (by kernel_rfl) (fun w' hS => exec_move _ rfl (.int .i64 ((i : Int))) rfl) ?_
     simp only [Act.put, s1_, s2_, s3_]
     refine qw_val (v := .int .i64 (((i - 1 : Nat) : Int))) 21 rfl (by kernel_rfl) (fun w' hS => exec_subG _ _ _ rfl _ _ _ rfl rfl (by omega) (by omega)) ?_
     simp only [Act.put, s1_, s2_, s3_]
     refine qw_val (v := .pointer (some ⟨b, o + (i - 1) * 108, none⟩)) 22 rfl (by kernel_rfl) (fun w' hS => exec_indexG _ _ _ rfl _ n c b o 108 (i - 1) rfl rfl rfl (by omega) (by kernel_rfl) _ (by omega)) ?_
     simp only [Act.put, s1_, s2_, s3_]
     refine qw_val (v := .pointer (some ⟨b, o + (i - 1) * 108, none⟩)) 23 rfl (by kernel_rfl) (fun w' hS => exec_fieldG _ _ 0 0 rfl b (o + (i - 1) * 108) rfl (by kernel_rfl) _ (by first | rfl | omega)) ?_
     simp only [Act.put, s1_, s2_, s3_]
     refine qw_val (v := .string (strOfNums y.name)) 24 rfl (by kernel_rfl) (fun w' hS => exec_load_one _ _ rfl b (o + (i - 1) * 108) rfl _ Tryd.underlying9 rfl _ ((hS.cell (p := ⟨b, o + (i - 1) * 108, none⟩) hbq).trans HNY.out)) ?_
     simp only [Act.put, s1_, s2_, s3_]
     refine qw_val (v := .pointer (some ⟨g4, 0, none⟩)) 25 rfl (by kernel_rfl) (fun w' hS => exec_fieldG _ _ 0 0 rfl g4 0 rfl (by kernel_rfl) _ (by first | rfl | omega)) ?_
     simp only [Act.put, s1_, s2_, s3_]
     refine qw_val (v := .string (strOfNums x.name)) 26 rfl (by kernel_rfl) (fun w' hS => exec_load_one _ _ rfl g4 0 rfl _ Tryd.underlying9 rfl _ ((hS.cell (p := ⟨g4, 0, none⟩) hg4).trans HNX.out)) ?_
     simp only [Act.put, s1_, s2_, s3_]
     refine qw_val (v := .bool true) 27 rfl (by kernel_rfl) (fun w' hS => exec_geq_name _ _ _ rfl y.name x.name rfl rfl HYB.out HXB.out true HGE.out) ?_
     simp only [Act.put, s1_, s2_, s3_]
     refine qw_val (v := .bool true) 28 rfl (by kernel_rfl) (fun w' hS => exec_pickG _ _ _ rfl true rfl _ rfl) ?_
     simp only [Act.put, s1_, s2_, s3_]
     refine qw_val (v := .bool true) 29 rfl (by kernel_rfl) (fun w' hS => exec_pickG _ _ _ rfl false rfl _ rfl) ?_
     simp only [Act.put, s1_, s2_, s3_]
     refine qw_nil ?_
     intro w8 hS
     replace HB := hide (HB.out.trans (hS.mono hzq))
     clear hS
     go_wp2_with fail
     go_ret
     exact ⟨by rw [HF.out]; rfl, HB.out⟩
  · obtain rfl : i = n := by omega
    have hlt' : ¬ (i : Int) < (i : Int) := by omega
    have HF := hide (show r0 = decide ((i : Int) ≤ 16) by
     rw [HRB.out, HG.out, List.drop_eq_nil_of_le (by rw [HN.out]; exact Nat.le_refl _), HN.out]
     have e : ∀ p, rightG p [] = true := fun p => by cases p <;> rfl
     rw [e, Bool.true_and]
     exact decide_eq_decide.2 (by omega))
    go_wp2_with fail
    go_ret
    exact ⟨by rw [HF.out]; rfl, HB.out⟩
end Go.Proofs.YthdjgebbjogmiaaDoor
