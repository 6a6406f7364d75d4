/- The document's RightEntries: may a directory have these? Condition: at most a million entries, with literals of at most a million bytes. -/
import Derived.Test.YthdjgebbjogmiaaDoorDirRight
import Derived.Test.YthdjgebbjogmiaaDoorSameCapR
import Derived.Test.YthdjgebbjogmiaaDoorJoin23
import Derived.Deep.CutRange
set_option linter.unusedVariables false
set_option linter.unusedSimpArgs false
namespace Go.Proofs.YthdjgebbjogmiaaDoor
open Go Go.RowKit
set_option linter.unusedVariables false
set_option linter.unusedSimpArgs false
set_option maxRecDepth 100000
theorem exec_len_strN {o : Oper} {a : Act} {w : World} (x : Operand) (ho : o.op = .call { callee := .builtin .len, args := #[x], argTypes := #[9] }) (nm : List Int) (hx : a.eval x = .string (strOfNums nm)) : (execOp a.eval o).run Tryd.prog w = .ok (.value (.int .i64 (nm.length : Int))) w := by
 unfold execOp
 simp only [ho, resolve, invoke, builtin, Sem.run_bind, Sem.run_pure, Result.andThen_ok, List.map_toArray, List.map_cons, List.map_nil, hx]
 simp [Builtin.len_, run_underlying Tryd.underlying9, goInt, strOfNums_size]
def tailB (x : EntD) : Bool := if x.has then (writeF x.write && sameF (roF x.write) x.read) else sameF x.write CapD.none_
theorem one_split (x : EntD) (h R : Bool) : (oneB x && (h && R)) = ((decide (1 ≤ x.name.length ∧ x.name.length ≤ 64) && (h && (decide x.read.Valid && !writeF x.read))) && (tailB x && R)) := by
 unfold oneB tailB
 generalize decide (1 ≤ x.name.length ∧ x.name.length ≤ 64) = a
 generalize decide x.read.Valid = b
 generalize writeF x.read = c
 generalize (if x.has then (writeF x.write && sameF (roF x.write) x.read) else sameF x.write CapD.none_) = d
 cases a <;> cases b <;> cases c <;> cases d <;> cases h <;> rfl
set_option maxHeartbeats 8000000
theorem drightR_any (v : Value) (l : List EntD) (w : World) (hv : EntsB w w.heap.size v l) (hlit : ∀ e ∈ l, e.read.lit.length ≤ 1000000 ∧ e.write.lit.length ≤ 1000000) (hn : l.length ≤ 1000000) :
 Calls Tryd.prog 22 #[v] w fun r w' => r = .returned (.bool (rightB l)) ∧ Below w.heap.size w w' := by
 have HLIT := hide hlit
 obtain ⟨A, c, rfl, h1, h2, h3⟩ := hv
 unfold maxLen at h2
 have HA := hide h3
 obtain ⟨r0, HR0⟩ : ∃ b, Hid (rightB l = b) := ⟨_, hide rfl⟩
 rw [HR0.out]
 have HRB := hide (show r0 = (rightG none l && decide (l.length ≤ 16)) by rw [← HR0.out]; rfl)
 obtain ⟨n, HN⟩ : ∃ k, Hid (l.length = k) := ⟨_, hide rfl⟩
 rw [HN.out] at h1 hn ⊢
 have HBe := hide (Below.refl w.heap.size w)
 clear h3 hlit HR0
 go_enter Tryd.func22, Tryd.ntmps22
 by_cases h16 : 16 < n
 · have i1 : (16 : Int) < (n : Int) := by omega
   have HF := hide (show r0 = false by rw [HRB.out, HN.out, decide_eq_false (by omega), Bool.and_false])
   have HB := HBe
   go_wp2_with fail
   go_ret
   exact ⟨by rw [HF.out]; rfl, HB.out⟩
 have i1 : ¬ (16 : Int) < (n : Int) := by omega
 have HRG0 := hide (show r0 = rightG none l by rw [HRB.out, HN.out, decide_eq_true (by omega), Bool.and_true])
 go_wp2_with fail
 go_loopw [12] (fun v12 wr => ∃ i : Nat, v12 = .int .i64 (i : Int) ∧ i ≤ n ∧ rightG none l = rightG (prevN l i) (l.drop i) ∧ Below w.heap.size w wr) (fun v12 _ => n - (intOf v12).toNat)
 case atStart => exact ⟨0, by go_num, by omega, by rfl, HBe.out⟩
 case round =>
  obtain ⟨i, rfl, hin, hg, hb⟩ := hrel
  have HG := hide hg
  have HB := hide hb
  have hzr := hb.size
  clear hg hb
  by_cases hlt : i < n
  · have hlt' : (i : Int) < (n : Int) := by omega
    obtain ⟨b, o, rfl, hbb, hca⟩ := HA.out (by rw [HN.out]; omega)
    obtain ⟨lr, lw, hok, hrg⟩ := hca i (by rw [HN.out]; exact hlt)
    have HPREV := hide (fun (_ : Nat) (h : 0 < i) => show ∃ lr lw, EntOk w w.heap.size (l[i - 1]'(by rw [HN.out]; omega)) lr lw ∧ w.rangeAt b (o + (i - 1) * 108) (entC (l[i - 1]'(by rw [HN.out]; omega)) lr lw) from hca (i - 1) (by rw [HN.out]; omega))
    have HAT := hide ((rightG_at l i (by rw [HN.out]; exact hlt)).trans (one_split _ _ _))
    have hli := HLIT.out _ (List.getElem_mem (show i < l.length by rw [HN.out]; exact hlt))
    obtain ⟨x, HX⟩ : ∃ x, Hid (l[i]'(by rw [HN.out]; exact hlt) = x) := ⟨_, hide rfl⟩
    rw [HX.out] at hok hrg HAT hli
    have HOK := hide hok
    have HSZ := hide (show (Tryd.prog.info? 45).map (·.size) = some (entC x lr lw).length by rw [ent_len hok]; exact size_ent)
    have HSR := hide (show (Tryd.prog.info? 28).map (·.size) = some (capCells x.read lr).length by rw [cc_len lr hok.rWf.keyL hok.rWf.fpL]; exact size_cap)
    have HSW := hide (show (Tryd.prog.info? 28).map (·.size) = some (capCells x.write lw).length by rw [cc_len lw hok.wWf.keyL hok.wWf.fpL]; exact size_cap)
    have HRG := hide (fun (j : Nat) (u : Value) (hu : (entC x lr lw)[j]? = some u) => show _ = some u from (HB.out.cell (p := ⟨b, o + i * 108 + j, none⟩) hbb).trans (hrg j u hu))
    have HXB := hide hok.nameB
    have HONES := hide (ent_ones hok)
    have HLI := hide hli
    have HVR := hide (capV_of hok.rWf.keyL hok.rWf.fpL hok.r1)
    have HVW := hide (capV_of hok.wWf.keyL hok.wWf.fpL hok.w1)
    clear hok hrg hca hli
    obtain ⟨g4, HG4⟩ : ∃ k, Hid (wr.heap.size = k) := ⟨_, hide rfl⟩
    go_upto_region 7 with (first
     | (refine wpList_val_ rfl (exec_loadAll 45 _ rfl b (o + i * 108) rfl _ (entC x lr lw) HRG.out Tryd.underlying45 rfl HSZ.out) ?_)
     | (refine wpList_alloc_blk rfl 45 rfl _ zero_ent ?_; intro w5 hb5 hw5 hs5; rw [HG4.out] at hb5; try rw [HG4.out]; have H4 := hide hb5; replace HB := hide (HB.out.trans (hw5.mono hzr)); clear hb5 hw5)
     | (refine wpList_st_putAll _ _ _ rfl rfl rfl H4.out (entC x lr lw) rfl (by rw [ent_len HOK.out, ent_len (w := w) (B := 0) ⟨EntD.none_wf, Bs.nil_ _ _, Bs.nil_ _ _⟩]) HSZ.out HONES.out ?_; intro wq hb6 hg6 hs6; replace H4 := hide hb6; replace HB := hide (HB.out.grown hg6 (by have := HB.out.size; omega) (by intro k hk; injection hk; have := HG4.out; omega)); clear hb6 hg6))
    simp only [Act.put, s1_, s2_, s3_]
    have hzq := HB.out.size
    have hg4 : g4 < wq.heap.size := H4.out.lt
    have HNX := hide (show wq.cell? ⟨g4, 0, none⟩ = some (.string (strOfNums x.name)) by rw [H4.out.cell]; rfl)
    have HCR := hide (fun (j : Nat) (u : Value) (hu : (capCells x.read lr)[j]? = some u) => show wq.cell? ⟨g4, 1 + j, none⟩ = some u by rw [H4.out.cell]; exact ent_read HOK.out j u hu)
    have HVALq := hide (fun (q : Bool) (hq : decide x.read.Valid = q) (w' : World) (hS : Below wq.heap.size wq w') => (Valid_ref x.read lr w' HVR.out).mono (fun e w'' hh => (⟨by rw [hh.1, hq], hS.trans (hh.2.mono hS.size)⟩ : e = .returned (.bool q) ∧ Below wq.heap.size wq w'')))
    have HWRIq := hide (fun (q : Bool) (hq : writeF x.read = q) (w' : World) (hS : Below wq.heap.size wq w') => (write_ref x.read lr w' HVR.out).mono (fun e w'' hh => (⟨by rw [hh.1, hq], hS.trans (hh.2.mono hS.size)⟩ : e = .returned (.bool q) ∧ Below wq.heap.size wq w'')))
    obtain ⟨good, HGOOD⟩ : ∃ q, Hid ((decide (1 ≤ x.name.length ∧ x.name.length ≤ 64) && (headG (prevN l i) x.name && (decide x.read.Valid && !writeF x.read))) = q) := ⟨_, hide rfl⟩
    go_cut [54] from 19 to 54 (fun v54 wx => v54 = .bool (!good) ∧ Below wq.heap.size wq wx)
    case first =>
     by_cases hlen : 1 ≤ x.name.length ∧ x.name.length ≤ 64
     case neg =>
      have HGB := hide (show good = false by rw [← HGOOD.out, decide_eq_false hlen, Bool.false_and])
      by_cases h1 : x.name.length < 1
      · have HLO := hide (show decide ((x.name.length : Int) < 1) = true from decide_eq_true (by omega))
        refine wp_region_qw (Below wq.heap.size wq) (by kernel_rfl) (by kernel_rfl) (Below.refl _ _).drew ?_
        refine qw_val (v := .pointer (some ⟨g4, 0, none⟩)) 19 rfl (by kernel_rfl) (fun w' hS => exec_fieldG _ _ 0 0 rfl g4 0 rfl (by kernel_rfl) _ (by first | rfl | omega)) ?_
        simp only [Act.put, s1_, s2_, s3_]
        refine qw_val (v := .string (strOfNums x.name)) 20 rfl (by kernel_rfl) (fun w' hS => exec_load_one _ _ rfl g4 0 rfl _ Tryd.underlying9 rfl _ ((hS.cell (p := ⟨g4, 0, none⟩) hg4).trans HNX.out)) ?_
        simp only [Act.put, s1_, s2_, s3_]
        refine qw_val (v := .int .i64 ((x.name.length : Int))) 21 rfl (by kernel_rfl) (fun w' hS => exec_len_strN _ rfl x.name rfl) ?_
        simp only [Act.put, s1_, s2_, s3_]
        refine qw_val (v := .bool true) 22 rfl (by kernel_rfl) (fun w' hS => exec_lss_i64 _ _ _ _ rfl ((x.name.length : Int)) 1 rfl rfl _ HLO.out) ?_
        simp only [Act.put, s1_, s2_, s3_]
        refine qw_val (v := .bool true) 23 rfl (by kernel_rfl) (fun w' hS => exec_move _ rfl (.bool true) rfl) ?_
        simp only [Act.put, s1_, s2_, s3_]
        refine qw_skip 24 rfl (by kernel_rfl) ?_
        simp only [Act.put, s1_, s2_, s3_]
        refine qw_skip 25 rfl (by kernel_rfl) ?_
        simp only [Act.put, s1_, s2_, s3_]
        refine qw_skip 26 rfl (by kernel_rfl) ?_
        simp only [Act.put, s1_, s2_, s3_]
        refine qw_skip 27 rfl (by kernel_rfl) ?_
        simp only [Act.put, s1_, s2_, s3_]
        refine qw_val (v := .bool true) 28 rfl (by kernel_rfl) (fun w' hS => exec_pickG _ _ _ rfl true rfl _ rfl) ?_
        simp only [Act.put, s1_, s2_, s3_]
        refine qw_val (v := .bool true) 29 rfl (by kernel_rfl) (fun w' hS => exec_move _ rfl (.bool true) rfl) ?_
        simp only [Act.put, s1_, s2_, s3_]
        refine qw_skip 30 rfl (by kernel_rfl) ?_
        simp only [Act.put, s1_, s2_, s3_]
        refine qw_skip 31 rfl (by kernel_rfl) ?_
        simp only [Act.put, s1_, s2_, s3_]
        refine qw_skip 32 rfl (by kernel_rfl) ?_
        simp only [Act.put, s1_, s2_, s3_]
        refine qw_skip 33 rfl (by kernel_rfl) ?_
        simp only [Act.put, s1_, s2_, s3_]
        refine qw_skip 34 rfl (by kernel_rfl) ?_
        simp only [Act.put, s1_, s2_, s3_]
        refine qw_skip 35 rfl (by kernel_rfl) ?_
        simp only [Act.put, s1_, s2_, s3_]
        refine qw_skip 36 rfl (by kernel_rfl) ?_
        simp only [Act.put, s1_, s2_, s3_]
        refine qw_skip 37 rfl (by kernel_rfl) ?_
        simp only [Act.put, s1_, s2_, s3_]
        refine qw_skip 38 rfl (by kernel_rfl) ?_
        simp only [Act.put, s1_, s2_, s3_]
        refine qw_skip 39 rfl (by kernel_rfl) ?_
        simp only [Act.put, s1_, s2_, s3_]
        refine qw_skip 40 rfl (by kernel_rfl) ?_
        simp only [Act.put, s1_, s2_, s3_]
        refine qw_skip 41 rfl (by kernel_rfl) ?_
        simp only [Act.put, s1_, s2_, s3_]
        refine qw_skip 42 rfl (by kernel_rfl) ?_
        simp only [Act.put, s1_, s2_, s3_]
        refine qw_val (v := .bool true) 43 rfl (by kernel_rfl) (fun w' hS => exec_pickG _ _ _ rfl true rfl _ rfl) ?_
        simp only [Act.put, s1_, s2_, s3_]
        refine qw_val (v := .bool true) 44 rfl (by kernel_rfl) (fun w' hS => exec_move _ rfl (.bool true) rfl) ?_
        simp only [Act.put, s1_, s2_, s3_]
        refine qw_skip 45 rfl (by kernel_rfl) ?_
        simp only [Act.put, s1_, s2_, s3_]
        refine qw_skip 46 rfl (by kernel_rfl) ?_
        simp only [Act.put, s1_, s2_, s3_]
        refine qw_skip 47 rfl (by kernel_rfl) ?_
        simp only [Act.put, s1_, s2_, s3_]
        refine qw_skip 48 rfl (by kernel_rfl) ?_
        simp only [Act.put, s1_, s2_, s3_]
        refine qw_val (v := .bool true) 49 rfl (by kernel_rfl) (fun w' hS => exec_pickG _ _ _ rfl true rfl _ rfl) ?_
        simp only [Act.put, s1_, s2_, s3_]
        refine qw_val (v := .bool true) 50 rfl (by kernel_rfl) (fun w' hS => exec_move _ rfl (.bool true) rfl) ?_
        simp only [Act.put, s1_, s2_, s3_]
        refine qw_skip 51 rfl (by kernel_rfl) ?_
        simp only [Act.put, s1_, s2_, s3_]
        refine qw_skip 52 rfl (by kernel_rfl) ?_
        simp only [Act.put, s1_, s2_, s3_]
        refine qw_skip 53 rfl (by kernel_rfl) ?_
        simp only [Act.put, s1_, s2_, s3_]
        refine qw_val (v := .bool true) 54 rfl (by kernel_rfl) (fun w' hS => exec_pickG _ _ _ rfl true rfl _ rfl) ?_
        simp only [Act.put, s1_, s2_, s3_]
        refine qw_nil ?_
        intro w8 hS
        go_wp2_with fail
        go_meet
        exact ⟨by rw [HGB.out]; rfl, hS⟩
      · have HLO := hide (show decide ((x.name.length : Int) < 1) = false from decide_eq_false (by omega))
        have HHI := hide (show decide ((64 : Int) < (x.name.length : Int)) = true from decide_eq_true (by omega))
        refine wp_region_qw (Below wq.heap.size wq) (by kernel_rfl) (by kernel_rfl) (Below.refl _ _).drew ?_
        refine qw_val (v := .pointer (some ⟨g4, 0, none⟩)) 19 rfl (by kernel_rfl) (fun w' hS => exec_fieldG _ _ 0 0 rfl g4 0 rfl (by kernel_rfl) _ (by first | rfl | omega)) ?_
        simp only [Act.put, s1_, s2_, s3_]
        refine qw_val (v := .string (strOfNums x.name)) 20 rfl (by kernel_rfl) (fun w' hS => exec_load_one _ _ rfl g4 0 rfl _ Tryd.underlying9 rfl _ ((hS.cell (p := ⟨g4, 0, none⟩) hg4).trans HNX.out)) ?_
        simp only [Act.put, s1_, s2_, s3_]
        refine qw_val (v := .int .i64 ((x.name.length : Int))) 21 rfl (by kernel_rfl) (fun w' hS => exec_len_strN _ rfl x.name rfl) ?_
        simp only [Act.put, s1_, s2_, s3_]
        refine qw_val (v := .bool false) 22 rfl (by kernel_rfl) (fun w' hS => exec_lss_i64 _ _ _ _ rfl ((x.name.length : Int)) 1 rfl rfl _ HLO.out) ?_
        simp only [Act.put, s1_, s2_, s3_]
        refine qw_val (v := .bool false) 23 rfl (by kernel_rfl) (fun w' hS => exec_move _ rfl (.bool false) rfl) ?_
        simp only [Act.put, s1_, s2_, s3_]
        refine qw_val (v := .pointer (some ⟨g4, 0, none⟩)) 24 rfl (by kernel_rfl) (fun w' hS => exec_fieldG _ _ 0 0 rfl g4 0 rfl (by kernel_rfl) _ (by first | rfl | omega)) ?_
        simp only [Act.put, s1_, s2_, s3_]
        refine qw_val (v := .string (strOfNums x.name)) 25 rfl (by kernel_rfl) (fun w' hS => exec_load_one _ _ rfl g4 0 rfl _ Tryd.underlying9 rfl _ ((hS.cell (p := ⟨g4, 0, none⟩) hg4).trans HNX.out)) ?_
        simp only [Act.put, s1_, s2_, s3_]
        refine qw_val (v := .int .i64 ((x.name.length : Int))) 26 rfl (by kernel_rfl) (fun w' hS => exec_len_strN _ rfl x.name rfl) ?_
        simp only [Act.put, s1_, s2_, s3_]
        refine qw_val (v := .bool true) 27 rfl (by kernel_rfl) (fun w' hS => exec_gtr_i64 _ _ _ _ rfl ((x.name.length : Int)) 64 rfl rfl _ HHI.out) ?_
        simp only [Act.put, s1_, s2_, s3_]
        refine qw_val (v := .bool true) 28 rfl (by kernel_rfl) (fun w' hS => exec_pickG _ _ _ rfl false rfl _ rfl) ?_
        simp only [Act.put, s1_, s2_, s3_]
        refine qw_val (v := .bool true) 29 rfl (by kernel_rfl) (fun w' hS => exec_move _ rfl (.bool true) rfl) ?_
        simp only [Act.put, s1_, s2_, s3_]
        refine qw_skip 30 rfl (by kernel_rfl) ?_
        simp only [Act.put, s1_, s2_, s3_]
        refine qw_skip 31 rfl (by kernel_rfl) ?_
        simp only [Act.put, s1_, s2_, s3_]
        refine qw_skip 32 rfl (by kernel_rfl) ?_
        simp only [Act.put, s1_, s2_, s3_]
        refine qw_skip 33 rfl (by kernel_rfl) ?_
        simp only [Act.put, s1_, s2_, s3_]
        refine qw_skip 34 rfl (by kernel_rfl) ?_
        simp only [Act.put, s1_, s2_, s3_]
        refine qw_skip 35 rfl (by kernel_rfl) ?_
        simp only [Act.put, s1_, s2_, s3_]
        refine qw_skip 36 rfl (by kernel_rfl) ?_
        simp only [Act.put, s1_, s2_, s3_]
        refine qw_skip 37 rfl (by kernel_rfl) ?_
        simp only [Act.put, s1_, s2_, s3_]
        refine qw_skip 38 rfl (by kernel_rfl) ?_
        simp only [Act.put, s1_, s2_, s3_]
        refine qw_skip 39 rfl (by kernel_rfl) ?_
        simp only [Act.put, s1_, s2_, s3_]
        refine qw_skip 40 rfl (by kernel_rfl) ?_
        simp only [Act.put, s1_, s2_, s3_]
        refine qw_skip 41 rfl (by kernel_rfl) ?_
        simp only [Act.put, s1_, s2_, s3_]
        refine qw_skip 42 rfl (by kernel_rfl) ?_
        simp only [Act.put, s1_, s2_, s3_]
        refine qw_val (v := .bool true) 43 rfl (by kernel_rfl) (fun w' hS => exec_pickG _ _ _ rfl true rfl _ rfl) ?_
        simp only [Act.put, s1_, s2_, s3_]
        refine qw_val (v := .bool true) 44 rfl (by kernel_rfl) (fun w' hS => exec_move _ rfl (.bool true) rfl) ?_
        simp only [Act.put, s1_, s2_, s3_]
        refine qw_skip 45 rfl (by kernel_rfl) ?_
        simp only [Act.put, s1_, s2_, s3_]
        refine qw_skip 46 rfl (by kernel_rfl) ?_
        simp only [Act.put, s1_, s2_, s3_]
        refine qw_skip 47 rfl (by kernel_rfl) ?_
        simp only [Act.put, s1_, s2_, s3_]
        refine qw_skip 48 rfl (by kernel_rfl) ?_
        simp only [Act.put, s1_, s2_, s3_]
        refine qw_val (v := .bool true) 49 rfl (by kernel_rfl) (fun w' hS => exec_pickG _ _ _ rfl true rfl _ rfl) ?_
        simp only [Act.put, s1_, s2_, s3_]
        refine qw_val (v := .bool true) 50 rfl (by kernel_rfl) (fun w' hS => exec_move _ rfl (.bool true) rfl) ?_
        simp only [Act.put, s1_, s2_, s3_]
        refine qw_skip 51 rfl (by kernel_rfl) ?_
        simp only [Act.put, s1_, s2_, s3_]
        refine qw_skip 52 rfl (by kernel_rfl) ?_
        simp only [Act.put, s1_, s2_, s3_]
        refine qw_skip 53 rfl (by kernel_rfl) ?_
        simp only [Act.put, s1_, s2_, s3_]
        refine qw_val (v := .bool true) 54 rfl (by kernel_rfl) (fun w' hS => exec_pickG _ _ _ rfl true rfl _ rfl) ?_
        simp only [Act.put, s1_, s2_, s3_]
        refine qw_nil ?_
        intro w8 hS
        go_wp2_with fail
        go_meet
        exact ⟨by rw [HGB.out]; rfl, hS⟩
     have HLO := hide (show decide ((x.name.length : Int) < 1) = false from decide_eq_false (by omega))
     have HHI := hide (show decide ((64 : Int) < (x.name.length : Int)) = false from decide_eq_false (by omega))
     by_cases hi0 : i = 0
     · have HGT := hide (show decide ((0 : Int) < (i : Int)) = false from decide_eq_false (by omega))
       have HHD := hide (show headG (prevN l i) x.name = true by rw [show prevN l i = none from if_pos hi0]; rfl)
       clear hi0
       by_cases hv : x.read.Valid
       case neg =>
        have HGB := hide (show good = false by rw [← HGOOD.out, decide_eq_false hv]; simp)
        have HVAL := hide (HVALq.out false (decide_eq_false hv))
        refine wp_region_qw (Below wq.heap.size wq) (by kernel_rfl) (by kernel_rfl) (Below.refl _ _).drew ?_
        refine qw_val (v := .pointer (some ⟨g4, 0, none⟩)) 19 rfl (by kernel_rfl) (fun w' hS => exec_fieldG _ _ 0 0 rfl g4 0 rfl (by kernel_rfl) _ (by first | rfl | omega)) ?_
        simp only [Act.put, s1_, s2_, s3_]
        refine qw_val (v := .string (strOfNums x.name)) 20 rfl (by kernel_rfl) (fun w' hS => exec_load_one _ _ rfl g4 0 rfl _ Tryd.underlying9 rfl _ ((hS.cell (p := ⟨g4, 0, none⟩) hg4).trans HNX.out)) ?_
        simp only [Act.put, s1_, s2_, s3_]
        refine qw_val (v := .int .i64 ((x.name.length : Int))) 21 rfl (by kernel_rfl) (fun w' hS => exec_len_strN _ rfl x.name rfl) ?_
        simp only [Act.put, s1_, s2_, s3_]
        refine qw_val (v := .bool false) 22 rfl (by kernel_rfl) (fun w' hS => exec_lss_i64 _ _ _ _ rfl ((x.name.length : Int)) 1 rfl rfl _ HLO.out) ?_
        simp only [Act.put, s1_, s2_, s3_]
        refine qw_val (v := .bool false) 23 rfl (by kernel_rfl) (fun w' hS => exec_move _ rfl (.bool false) rfl) ?_
        simp only [Act.put, s1_, s2_, s3_]
        refine qw_val (v := .pointer (some ⟨g4, 0, none⟩)) 24 rfl (by kernel_rfl) (fun w' hS => exec_fieldG _ _ 0 0 rfl g4 0 rfl (by kernel_rfl) _ (by first | rfl | omega)) ?_
        simp only [Act.put, s1_, s2_, s3_]
        refine qw_val (v := .string (strOfNums x.name)) 25 rfl (by kernel_rfl) (fun w' hS => exec_load_one _ _ rfl g4 0 rfl _ Tryd.underlying9 rfl _ ((hS.cell (p := ⟨g4, 0, none⟩) hg4).trans HNX.out)) ?_
        simp only [Act.put, s1_, s2_, s3_]
        refine qw_val (v := .int .i64 ((x.name.length : Int))) 26 rfl (by kernel_rfl) (fun w' hS => exec_len_strN _ rfl x.name rfl) ?_
        simp only [Act.put, s1_, s2_, s3_]
        refine qw_val (v := .bool false) 27 rfl (by kernel_rfl) (fun w' hS => exec_gtr_i64 _ _ _ _ rfl ((x.name.length : Int)) 64 rfl rfl _ HHI.out) ?_
        simp only [Act.put, s1_, s2_, s3_]
        refine qw_val (v := .bool false) 28 rfl (by kernel_rfl) (fun w' hS => exec_pickG _ _ _ rfl false rfl _ rfl) ?_
        simp only [Act.put, s1_, s2_, s3_]
        refine qw_val (v := .bool false) 29 rfl (by kernel_rfl) (fun w' hS => exec_move _ rfl (.bool false) rfl) ?_
        simp only [Act.put, s1_, s2_, s3_]
        refine qw_val (v := .int .i64 ((i : Int))) 30 rfl (by kernel_rfl) (fun w' hS => exec_move _ rfl (.int .i64 ((i : Int))) rfl) ?_
        simp only [Act.put, s1_, s2_, s3_]
        refine qw_val (v := .bool false) 31 rfl (by kernel_rfl) (fun w' hS => exec_gtr_i64 _ _ _ _ rfl ((i : Int)) 0 rfl rfl _ HGT.out) ?_
        simp only [Act.put, s1_, s2_, s3_]
        refine qw_val (v := .bool false) 32 rfl (by kernel_rfl) (fun w' hS => exec_move _ rfl (.bool false) rfl) ?_
        simp only [Act.put, s1_, s2_, s3_]
        refine qw_skip 33 rfl (by kernel_rfl) ?_
        simp only [Act.put, s1_, s2_, s3_]
        refine qw_skip 34 rfl (by kernel_rfl) ?_
        simp only [Act.put, s1_, s2_, s3_]
        refine qw_skip 35 rfl (by kernel_rfl) ?_
        simp only [Act.put, s1_, s2_, s3_]
        refine qw_skip 36 rfl (by kernel_rfl) ?_
        simp only [Act.put, s1_, s2_, s3_]
        refine qw_skip 37 rfl (by kernel_rfl) ?_
        simp only [Act.put, s1_, s2_, s3_]
        refine qw_skip 38 rfl (by kernel_rfl) ?_
        simp only [Act.put, s1_, s2_, s3_]
        refine qw_skip 39 rfl (by kernel_rfl) ?_
        simp only [Act.put, s1_, s2_, s3_]
        refine qw_skip 40 rfl (by kernel_rfl) ?_
        simp only [Act.put, s1_, s2_, s3_]
        refine qw_skip 41 rfl (by kernel_rfl) ?_
        simp only [Act.put, s1_, s2_, s3_]
        refine qw_val (v := .bool false) 42 rfl (by kernel_rfl) (fun w' hS => exec_pickG _ _ _ rfl false rfl _ rfl) ?_
        simp only [Act.put, s1_, s2_, s3_]
        refine qw_val (v := .bool false) 43 rfl (by kernel_rfl) (fun w' hS => exec_pickG _ _ _ rfl false rfl _ rfl) ?_
        simp only [Act.put, s1_, s2_, s3_]
        refine qw_val (v := .bool false) 44 rfl (by kernel_rfl) (fun w' hS => exec_move _ rfl (.bool false) rfl) ?_
        simp only [Act.put, s1_, s2_, s3_]
        refine qw_val (v := .pointer (some ⟨g4, 1, none⟩)) 45 rfl (by kernel_rfl) (fun w' hS => exec_fieldG _ _ 1 1 rfl g4 0 rfl (by kernel_rfl) _ (by first | rfl | omega)) ?_
        simp only [Act.put, s1_, s2_, s3_]
        refine qw_val (v := .agg (capCells x.read lr).toArray) 46 rfl (by kernel_rfl) (fun w' hS => exec_loadAll _ _ rfl g4 1 rfl _ _ (fun j u hu => (hS.cell (p := ⟨g4, 1 + j, none⟩) hg4).trans (HCR.out j u hu)) Tryd.underlying28 rfl HSR.out) ?_
        simp only [Act.put, s1_, s2_, s3_]
        refine qw_call (v := .bool false) 47 rfl (by kernel_rfl) 34 #[.agg (capCells x.read lr).toArray] (fun w' => exec_call _ _ _ rfl _ (by simp [Act.eval]) (by go_simp)) (fun w' hS => HVAL.out w' hS) ?_
        simp only [Act.put, s1_, s2_, s3_]
        refine qw_val (v := .bool true) 48 rfl (by kernel_rfl) (fun w' hS => exec_notG _ _ rfl false rfl _ rfl) ?_
        simp only [Act.put, s1_, s2_, s3_]
        refine qw_val (v := .bool true) 49 rfl (by kernel_rfl) (fun w' hS => exec_pickG _ _ _ rfl false rfl _ rfl) ?_
        simp only [Act.put, s1_, s2_, s3_]
        refine qw_val (v := .bool true) 50 rfl (by kernel_rfl) (fun w' hS => exec_move _ rfl (.bool true) rfl) ?_
        simp only [Act.put, s1_, s2_, s3_]
        refine qw_skip 51 rfl (by kernel_rfl) ?_
        simp only [Act.put, s1_, s2_, s3_]
        refine qw_skip 52 rfl (by kernel_rfl) ?_
        simp only [Act.put, s1_, s2_, s3_]
        refine qw_skip 53 rfl (by kernel_rfl) ?_
        simp only [Act.put, s1_, s2_, s3_]
        refine qw_val (v := .bool true) 54 rfl (by kernel_rfl) (fun w' hS => exec_pickG _ _ _ rfl true rfl _ rfl) ?_
        simp only [Act.put, s1_, s2_, s3_]
        refine qw_nil ?_
        intro w8 hS
        go_wp2_with fail
        go_meet
        exact ⟨by rw [HGB.out]; rfl, hS⟩
       have HVAL := hide (HVALq.out true (decide_eq_true hv))
       rcases hwr : writeF x.read with _ | _
       case true =>
        have HGB := hide (show good = false by rw [← HGOOD.out, hwr]; simp)
        have HWRI := hide (HWRIq.out true hwr)
        refine wp_region_qw (Below wq.heap.size wq) (by kernel_rfl) (by kernel_rfl) (Below.refl _ _).drew ?_
        refine qw_val (v := .pointer (some ⟨g4, 0, none⟩)) 19 rfl (by kernel_rfl) (fun w' hS => exec_fieldG _ _ 0 0 rfl g4 0 rfl (by kernel_rfl) _ (by first | rfl | omega)) ?_
        simp only [Act.put, s1_, s2_, s3_]
        refine qw_val (v := .string (strOfNums x.name)) 20 rfl (by kernel_rfl) (fun w' hS => exec_load_one _ _ rfl g4 0 rfl _ Tryd.underlying9 rfl _ ((hS.cell (p := ⟨g4, 0, none⟩) hg4).trans HNX.out)) ?_
        simp only [Act.put, s1_, s2_, s3_]
        refine qw_val (v := .int .i64 ((x.name.length : Int))) 21 rfl (by kernel_rfl) (fun w' hS => exec_len_strN _ rfl x.name rfl) ?_
        simp only [Act.put, s1_, s2_, s3_]
        refine qw_val (v := .bool false) 22 rfl (by kernel_rfl) (fun w' hS => exec_lss_i64 _ _ _ _ rfl ((x.name.length : Int)) 1 rfl rfl _ HLO.out) ?_
        simp only [Act.put, s1_, s2_, s3_]
        refine qw_val (v := .bool false) 23 rfl (by kernel_rfl) (fun w' hS => exec_move _ rfl (.bool false) rfl) ?_
        simp only [Act.put, s1_, s2_, s3_]
        refine qw_val (v := .pointer (some ⟨g4, 0, none⟩)) 24 rfl (by kernel_rfl) (fun w' hS => exec_fieldG _ _ 0 0 rfl g4 0 rfl (by kernel_rfl) _ (by first | rfl | omega)) ?_
        simp only [Act.put, s1_, s2_, s3_]
        refine qw_val (v := .string (strOfNums x.name)) 25 rfl (by kernel_rfl) (fun w' hS => exec_load_one _ _ rfl g4 0 rfl _ Tryd.underlying9 rfl _ ((hS.cell (p := ⟨g4, 0, none⟩) hg4).trans HNX.out)) ?_
        simp only [Act.put, s1_, s2_, s3_]
        refine qw_val (v := .int .i64 ((x.name.length : Int))) 26 rfl (by kernel_rfl) (fun w' hS => exec_len_strN _ rfl x.name rfl) ?_
        simp only [Act.put, s1_, s2_, s3_]
        refine qw_val (v := .bool false) 27 rfl (by kernel_rfl) (fun w' hS => exec_gtr_i64 _ _ _ _ rfl ((x.name.length : Int)) 64 rfl rfl _ HHI.out) ?_
        simp only [Act.put, s1_, s2_, s3_]
        refine qw_val (v := .bool false) 28 rfl (by kernel_rfl) (fun w' hS => exec_pickG _ _ _ rfl false rfl _ rfl) ?_
        simp only [Act.put, s1_, s2_, s3_]
        refine qw_val (v := .bool false) 29 rfl (by kernel_rfl) (fun w' hS => exec_move _ rfl (.bool false) rfl) ?_
        simp only [Act.put, s1_, s2_, s3_]
        refine qw_val (v := .int .i64 ((i : Int))) 30 rfl (by kernel_rfl) (fun w' hS => exec_move _ rfl (.int .i64 ((i : Int))) rfl) ?_
        simp only [Act.put, s1_, s2_, s3_]
        refine qw_val (v := .bool false) 31 rfl (by kernel_rfl) (fun w' hS => exec_gtr_i64 _ _ _ _ rfl ((i : Int)) 0 rfl rfl _ HGT.out) ?_
        simp only [Act.put, s1_, s2_, s3_]
        refine qw_val (v := .bool false) 32 rfl (by kernel_rfl) (fun w' hS => exec_move _ rfl (.bool false) rfl) ?_
        simp only [Act.put, s1_, s2_, s3_]
        refine qw_skip 33 rfl (by kernel_rfl) ?_
        simp only [Act.put, s1_, s2_, s3_]
        refine qw_skip 34 rfl (by kernel_rfl) ?_
        simp only [Act.put, s1_, s2_, s3_]
        refine qw_skip 35 rfl (by kernel_rfl) ?_
        simp only [Act.put, s1_, s2_, s3_]
        refine qw_skip 36 rfl (by kernel_rfl) ?_
        simp only [Act.put, s1_, s2_, s3_]
        refine qw_skip 37 rfl (by kernel_rfl) ?_
        simp only [Act.put, s1_, s2_, s3_]
        refine qw_skip 38 rfl (by kernel_rfl) ?_
        simp only [Act.put, s1_, s2_, s3_]
        refine qw_skip 39 rfl (by kernel_rfl) ?_
        simp only [Act.put, s1_, s2_, s3_]
        refine qw_skip 40 rfl (by kernel_rfl) ?_
        simp only [Act.put, s1_, s2_, s3_]
        refine qw_skip 41 rfl (by kernel_rfl) ?_
        simp only [Act.put, s1_, s2_, s3_]
        refine qw_val (v := .bool false) 42 rfl (by kernel_rfl) (fun w' hS => exec_pickG _ _ _ rfl false rfl _ rfl) ?_
        simp only [Act.put, s1_, s2_, s3_]
        refine qw_val (v := .bool false) 43 rfl (by kernel_rfl) (fun w' hS => exec_pickG _ _ _ rfl false rfl _ rfl) ?_
        simp only [Act.put, s1_, s2_, s3_]
        refine qw_val (v := .bool false) 44 rfl (by kernel_rfl) (fun w' hS => exec_move _ rfl (.bool false) rfl) ?_
        simp only [Act.put, s1_, s2_, s3_]
        refine qw_val (v := .pointer (some ⟨g4, 1, none⟩)) 45 rfl (by kernel_rfl) (fun w' hS => exec_fieldG _ _ 1 1 rfl g4 0 rfl (by kernel_rfl) _ (by first | rfl | omega)) ?_
        simp only [Act.put, s1_, s2_, s3_]
        refine qw_val (v := .agg (capCells x.read lr).toArray) 46 rfl (by kernel_rfl) (fun w' hS => exec_loadAll _ _ rfl g4 1 rfl _ _ (fun j u hu => (hS.cell (p := ⟨g4, 1 + j, none⟩) hg4).trans (HCR.out j u hu)) Tryd.underlying28 rfl HSR.out) ?_
        simp only [Act.put, s1_, s2_, s3_]
        refine qw_call (v := .bool true) 47 rfl (by kernel_rfl) 34 #[.agg (capCells x.read lr).toArray] (fun w' => exec_call _ _ _ rfl _ (by simp [Act.eval]) (by go_simp)) (fun w' hS => HVAL.out w' hS) ?_
        simp only [Act.put, s1_, s2_, s3_]
        refine qw_val (v := .bool false) 48 rfl (by kernel_rfl) (fun w' hS => exec_notG _ _ rfl true rfl _ rfl) ?_
        simp only [Act.put, s1_, s2_, s3_]
        refine qw_val (v := .bool false) 49 rfl (by kernel_rfl) (fun w' hS => exec_pickG _ _ _ rfl false rfl _ rfl) ?_
        simp only [Act.put, s1_, s2_, s3_]
        refine qw_val (v := .bool false) 50 rfl (by kernel_rfl) (fun w' hS => exec_move _ rfl (.bool false) rfl) ?_
        simp only [Act.put, s1_, s2_, s3_]
        refine qw_val (v := .pointer (some ⟨g4, 1, none⟩)) 51 rfl (by kernel_rfl) (fun w' hS => exec_fieldG _ _ 1 1 rfl g4 0 rfl (by kernel_rfl) _ (by first | rfl | omega)) ?_
        simp only [Act.put, s1_, s2_, s3_]
        refine qw_val (v := .agg (capCells x.read lr).toArray) 52 rfl (by kernel_rfl) (fun w' hS => exec_loadAll _ _ rfl g4 1 rfl _ _ (fun j u hu => (hS.cell (p := ⟨g4, 1 + j, none⟩) hg4).trans (HCR.out j u hu)) Tryd.underlying28 rfl HSR.out) ?_
        simp only [Act.put, s1_, s2_, s3_]
        refine qw_call (v := .bool true) 53 rfl (by kernel_rfl) 39 #[.agg (capCells x.read lr).toArray] (fun w' => exec_call _ _ _ rfl _ (by simp [Act.eval]) (by go_simp)) (fun w' hS => HWRI.out w' hS) ?_
        simp only [Act.put, s1_, s2_, s3_]
        refine qw_val (v := .bool true) 54 rfl (by kernel_rfl) (fun w' hS => exec_pickG _ _ _ rfl false rfl _ rfl) ?_
        simp only [Act.put, s1_, s2_, s3_]
        refine qw_nil ?_
        intro w8 hS
        go_wp2_with fail
        go_meet
        exact ⟨by rw [HGB.out]; rfl, hS⟩
       have HGB := hide (show good = true by rw [← HGOOD.out, decide_eq_true hv, hwr, decide_eq_true hlen, HHD.out]; rfl)
       have HWRI := hide (HWRIq.out false hwr)
       refine wp_region_qw (Below wq.heap.size wq) (by kernel_rfl) (by kernel_rfl) (Below.refl _ _).drew ?_
       refine qw_val (v := .pointer (some ⟨g4, 0, none⟩)) 19 rfl (by kernel_rfl) (fun w' hS => exec_fieldG _ _ 0 0 rfl g4 0 rfl (by kernel_rfl) _ (by first | rfl | omega)) ?_
       simp only [Act.put, s1_, s2_, s3_]
       refine qw_val (v := .string (strOfNums x.name)) 20 rfl (by kernel_rfl) (fun w' hS => exec_load_one _ _ rfl g4 0 rfl _ Tryd.underlying9 rfl _ ((hS.cell (p := ⟨g4, 0, none⟩) hg4).trans HNX.out)) ?_
       simp only [Act.put, s1_, s2_, s3_]
       refine qw_val (v := .int .i64 ((x.name.length : Int))) 21 rfl (by kernel_rfl) (fun w' hS => exec_len_strN _ rfl x.name rfl) ?_
       simp only [Act.put, s1_, s2_, s3_]
       refine qw_val (v := .bool false) 22 rfl (by kernel_rfl) (fun w' hS => exec_lss_i64 _ _ _ _ rfl ((x.name.length : Int)) 1 rfl rfl _ HLO.out) ?_
       simp only [Act.put, s1_, s2_, s3_]
       refine qw_val (v := .bool false) 23 rfl (by kernel_rfl) (fun w' hS => exec_move _ rfl (.bool false) rfl) ?_
       simp only [Act.put, s1_, s2_, s3_]
       refine qw_val (v := .pointer (some ⟨g4, 0, none⟩)) 24 rfl (by kernel_rfl) (fun w' hS => exec_fieldG _ _ 0 0 rfl g4 0 rfl (by kernel_rfl) _ (by first | rfl | omega)) ?_
       simp only [Act.put, s1_, s2_, s3_]
       refine qw_val (v := .string (strOfNums x.name)) 25 rfl (by kernel_rfl) (fun w' hS => exec_load_one _ _ rfl g4 0 rfl _ Tryd.underlying9 rfl _ ((hS.cell (p := ⟨g4, 0, none⟩) hg4).trans HNX.out)) ?_
       simp only [Act.put, s1_, s2_, s3_]
       refine qw_val (v := .int .i64 ((x.name.length : Int))) 26 rfl (by kernel_rfl) (fun w' hS => exec_len_strN _ rfl x.name rfl) ?_
       simp only [Act.put, s1_, s2_, s3_]
       refine qw_val (v := .bool false) 27 rfl (by kernel_rfl) (fun w' hS => exec_gtr_i64 _ _ _ _ rfl ((x.name.length : Int)) 64 rfl rfl _ HHI.out) ?_
       simp only [Act.put, s1_, s2_, s3_]
       refine qw_val (v := .bool false) 28 rfl (by kernel_rfl) (fun w' hS => exec_pickG _ _ _ rfl false rfl _ rfl) ?_
       simp only [Act.put, s1_, s2_, s3_]
       refine qw_val (v := .bool false) 29 rfl (by kernel_rfl) (fun w' hS => exec_move _ rfl (.bool false) rfl) ?_
       simp only [Act.put, s1_, s2_, s3_]
       refine qw_val (v := .int .i64 ((i : Int))) 30 rfl (by kernel_rfl) (fun w' hS => exec_move _ rfl (.int .i64 ((i : Int))) rfl) ?_
       simp only [Act.put, s1_, s2_, s3_]
       refine qw_val (v := .bool false) 31 rfl (by kernel_rfl) (fun w' hS => exec_gtr_i64 _ _ _ _ rfl ((i : Int)) 0 rfl rfl _ HGT.out) ?_
       simp only [Act.put, s1_, s2_, s3_]
       refine qw_val (v := .bool false) 32 rfl (by kernel_rfl) (fun w' hS => exec_move _ rfl (.bool false) rfl) ?_
       simp only [Act.put, s1_, s2_, s3_]
       refine qw_skip 33 rfl (by kernel_rfl) ?_
       simp only [Act.put, s1_, s2_, s3_]
       refine qw_skip 34 rfl (by kernel_rfl) ?_
       simp only [Act.put, s1_, s2_, s3_]
       refine qw_skip 35 rfl (by kernel_rfl) ?_
       simp only [Act.put, s1_, s2_, s3_]
       refine qw_skip 36 rfl (by kernel_rfl) ?_
       simp only [Act.put, s1_, s2_, s3_]
       refine qw_skip 37 rfl (by kernel_rfl) ?_
       simp only [Act.put, s1_, s2_, s3_]
       refine qw_skip 38 rfl (by kernel_rfl) ?_
       simp only [Act.put, s1_, s2_, s3_]
       refine qw_skip 39 rfl (by kernel_rfl) ?_
       simp only [Act.put, s1_, s2_, s3_]
       refine qw_skip 40 rfl (by kernel_rfl) ?_
       simp only [Act.put, s1_, s2_, s3_]
       refine qw_skip 41 rfl (by kernel_rfl) ?_
       simp only [Act.put, s1_, s2_, s3_]
       refine qw_val (v := .bool false) 42 rfl (by kernel_rfl) (fun w' hS => exec_pickG _ _ _ rfl false rfl _ rfl) ?_
       simp only [Act.put, s1_, s2_, s3_]
       refine qw_val (v := .bool false) 43 rfl (by kernel_rfl) (fun w' hS => exec_pickG _ _ _ rfl false rfl _ rfl) ?_
       simp only [Act.put, s1_, s2_, s3_]
       refine qw_val (v := .bool false) 44 rfl (by kernel_rfl) (fun w' hS => exec_move _ rfl (.bool false) rfl) ?_
       simp only [Act.put, s1_, s2_, s3_]
       refine qw_val (v := .pointer (some ⟨g4, 1, none⟩)) 45 rfl (by kernel_rfl) (fun w' hS => exec_fieldG _ _ 1 1 rfl g4 0 rfl (by kernel_rfl) _ (by first | rfl | omega)) ?_
       simp only [Act.put, s1_, s2_, s3_]
       refine qw_val (v := .agg (capCells x.read lr).toArray) 46 rfl (by kernel_rfl) (fun w' hS => exec_loadAll _ _ rfl g4 1 rfl _ _ (fun j u hu => (hS.cell (p := ⟨g4, 1 + j, none⟩) hg4).trans (HCR.out j u hu)) Tryd.underlying28 rfl HSR.out) ?_
       simp only [Act.put, s1_, s2_, s3_]
       refine qw_call (v := .bool true) 47 rfl (by kernel_rfl) 34 #[.agg (capCells x.read lr).toArray] (fun w' => exec_call _ _ _ rfl _ (by simp [Act.eval]) (by go_simp)) (fun w' hS => HVAL.out w' hS) ?_
       simp only [Act.put, s1_, s2_, s3_]
       refine qw_val (v := .bool false) 48 rfl (by kernel_rfl) (fun w' hS => exec_notG _ _ rfl true rfl _ rfl) ?_
       simp only [Act.put, s1_, s2_, s3_]
       refine qw_val (v := .bool false) 49 rfl (by kernel_rfl) (fun w' hS => exec_pickG _ _ _ rfl false rfl _ rfl) ?_
       simp only [Act.put, s1_, s2_, s3_]
       refine qw_val (v := .bool false) 50 rfl (by kernel_rfl) (fun w' hS => exec_move _ rfl (.bool false) rfl) ?_
       simp only [Act.put, s1_, s2_, s3_]
       refine qw_val (v := .pointer (some ⟨g4, 1, none⟩)) 51 rfl (by kernel_rfl) (fun w' hS => exec_fieldG _ _ 1 1 rfl g4 0 rfl (by kernel_rfl) _ (by first | rfl | omega)) ?_
       simp only [Act.put, s1_, s2_, s3_]
       refine qw_val (v := .agg (capCells x.read lr).toArray) 52 rfl (by kernel_rfl) (fun w' hS => exec_loadAll _ _ rfl g4 1 rfl _ _ (fun j u hu => (hS.cell (p := ⟨g4, 1 + j, none⟩) hg4).trans (HCR.out j u hu)) Tryd.underlying28 rfl HSR.out) ?_
       simp only [Act.put, s1_, s2_, s3_]
       refine qw_call (v := .bool false) 53 rfl (by kernel_rfl) 39 #[.agg (capCells x.read lr).toArray] (fun w' => exec_call _ _ _ rfl _ (by simp [Act.eval]) (by go_simp)) (fun w' hS => HWRI.out w' hS) ?_
       simp only [Act.put, s1_, s2_, s3_]
       refine qw_val (v := .bool false) 54 rfl (by kernel_rfl) (fun w' hS => exec_pickG _ _ _ rfl false rfl _ rfl) ?_
       simp only [Act.put, s1_, s2_, s3_]
       refine qw_nil ?_
       intro w8 hS
       go_wp2_with fail
       go_meet
       exact ⟨by rw [HGB.out]; rfl, hS⟩
     have HGT := hide (show decide ((0 : Int) < (i : Int)) = true from decide_eq_true (by omega))
     obtain ⟨lr2, lw2, hok2, hrg2⟩ := HPREV.out 0 (by omega)
     have hpn : prevN l i = some (l[i - 1]'(by rw [HN.out]; omega)).name := by
      unfold prevN
      rw [if_neg hi0, List.getElem?_eq_getElem (by rw [HN.out]; omega)]
      rfl
     obtain ⟨y, HYE⟩ : ∃ x, Hid (l[i - 1]'(by rw [HN.out]; omega) = x) := ⟨_, hide rfl⟩
     rw [HYE.out] at hok2 hrg2 hpn
     have HYB := hide hok2.nameB
     have hbq : b < wq.heap.size := Nat.lt_of_lt_of_le hbb hzq
     have HNY := hide (show _ = some (Value.string (strOfNums y.name)) from (HB.out.cell (p := ⟨b, o + (i - 1) * 108, none⟩) hbb).trans (by have := hrg2 0 _ ent_name; rwa [Nat.add_zero] at this))
     obtain ⟨qg, HLE⟩ : ∃ q, Hid (ltL y.name x.name = !q) := ⟨!(ltL y.name x.name), hide (by rw [Bool.not_not])⟩
     have HHQ := hide (show headG (prevN l i) x.name = !qg by rw [hpn]; exact HLE.out)
     clear hok2 hrg2 hpn HPREV HYE
     rcases qg with _ | _
     case true =>
      have HGB := hide (show good = false by rw [← HGOOD.out, HHQ.out]; simp)
      refine wp_region_qw (Below wq.heap.size wq) (by kernel_rfl) (by kernel_rfl) (Below.refl _ _).drew ?_
      refine qw_val (v := .pointer (some ⟨g4, 0, none⟩)) 19 rfl (by kernel_rfl) (fun w' hS => exec_fieldG _ _ 0 0 rfl g4 0 rfl (by kernel_rfl) _ (by first | rfl | omega)) ?_
      simp only [Act.put, s1_, s2_, s3_]
      refine qw_val (v := .string (strOfNums x.name)) 20 rfl (by kernel_rfl) (fun w' hS => exec_load_one _ _ rfl g4 0 rfl _ Tryd.underlying9 rfl _ ((hS.cell (p := ⟨g4, 0, none⟩) hg4).trans HNX.out)) ?_
      simp only [Act.put, s1_, s2_, s3_]
      refine qw_val (v := .int .i64 ((x.name.length : Int))) 21 rfl (by kernel_rfl) (fun w' hS => exec_len_strN _ rfl x.name rfl) ?_
      simp only [Act.put, s1_, s2_, s3_]
      refine qw_val (v := .bool false) 22 rfl (by kernel_rfl) (fun w' hS => exec_lss_i64 _ _ _ _ rfl ((x.name.length : Int)) 1 rfl rfl _ HLO.out) ?_
      simp only [Act.put, s1_, s2_, s3_]
      refine qw_val (v := .bool false) 23 rfl (by kernel_rfl) (fun w' hS => exec_move _ rfl (.bool false) rfl) ?_
      simp only [Act.put, s1_, s2_, s3_]
      refine qw_val (v := .pointer (some ⟨g4, 0, none⟩)) 24 rfl (by kernel_rfl) (fun w' hS => exec_fieldG _ _ 0 0 rfl g4 0 rfl (by kernel_rfl) _ (by first | rfl | omega)) ?_
      simp only [Act.put, s1_, s2_, s3_]
      refine qw_val (v := .string (strOfNums x.name)) 25 rfl (by kernel_rfl) (fun w' hS => exec_load_one _ _ rfl g4 0 rfl _ Tryd.underlying9 rfl _ ((hS.cell (p := ⟨g4, 0, none⟩) hg4).trans HNX.out)) ?_
      simp only [Act.put, s1_, s2_, s3_]
      refine qw_val (v := .int .i64 ((x.name.length : Int))) 26 rfl (by kernel_rfl) (fun w' hS => exec_len_strN _ rfl x.name rfl) ?_
      simp only [Act.put, s1_, s2_, s3_]
      refine qw_val (v := .bool false) 27 rfl (by kernel_rfl) (fun w' hS => exec_gtr_i64 _ _ _ _ rfl ((x.name.length : Int)) 64 rfl rfl _ HHI.out) ?_
      simp only [Act.put, s1_, s2_, s3_]
      refine qw_val (v := .bool false) 28 rfl (by kernel_rfl) (fun w' hS => exec_pickG _ _ _ rfl false rfl _ rfl) ?_
      simp only [Act.put, s1_, s2_, s3_]
      refine qw_val (v := .bool false) 29 rfl (by kernel_rfl) (fun w' hS => exec_move _ rfl (.bool false) rfl) ?_
      simp only [Act.put, s1_, s2_, s3_]
      refine qw_val (v := .int .i64 ((i : Int))) 30 rfl (by kernel_rfl) (fun w' hS => exec_move _ rfl (.int .i64 ((i : Int))) rfl) ?_
      simp only [Act.put, s1_, s2_, s3_]
      refine qw_val (v := .bool true) 31 rfl (by kernel_rfl) (fun w' hS => exec_gtr_i64 _ _ _ _ rfl ((i : Int)) 0 rfl rfl _ HGT.out) ?_
      simp only [Act.put, s1_, s2_, s3_]
      refine qw_val (v := .bool true) 32 rfl (by kernel_rfl) (fun w' hS => exec_move _ rfl (.bool true) rfl) ?_
      simp only [Act.put, s1_, s2_, s3_]
      refine qw_val (v := .pointer (some ⟨g4, 0, none⟩)) 33 rfl (by kernel_rfl) (fun w' hS => exec_fieldG _ _ 0 0 rfl g4 0 rfl (by kernel_rfl) _ (by first | rfl | omega)) ?_
      simp only [Act.put, s1_, s2_, s3_]
      refine qw_val (v := .string (strOfNums x.name)) 34 rfl (by kernel_rfl) (fun w' hS => exec_load_one _ _ rfl g4 0 rfl _ Tryd.underlying9 rfl _ ((hS.cell (p := ⟨g4, 0, none⟩) hg4).trans HNX.out)) ?_
      simp only [Act.put, s1_, s2_, s3_]
      refine qw_val (v := .slice (some ⟨b, o, none⟩) n c) 35 rfl (by kernel_rfl) (fun w' hS => exec_move _ rfl (.slice (some ⟨b, o, none⟩) n c) rfl) ?_
      simp only [Act.put, s1_, s2_, s3_]
      refine qw_val (v := .int .i64 ((i : Int))) 36 rfl (by kernel_rfl) (fun w' hS => exec_move _ rfl (.int .i64 ((i : Int))) rfl) ?_
      simp only [Act.put, s1_, s2_, s3_]
      refine qw_val (v := .int .i64 (((i - 1 : Nat) : Int))) 37 rfl (by kernel_rfl) (fun w' hS => exec_subG _ _ _ rfl _ _ _ rfl rfl (by omega) (by omega)) ?_
      simp only [Act.put, s1_, s2_, s3_]
      refine qw_val (v := .pointer (some ⟨b, o + (i - 1) * 108, none⟩)) 38 rfl (by kernel_rfl) (fun w' hS => exec_indexG _ _ _ rfl _ n c b o 108 (i - 1) rfl rfl rfl (by omega) (by kernel_rfl) _ (by omega)) ?_
      simp only [Act.put, s1_, s2_, s3_]
      refine qw_val (v := .pointer (some ⟨b, o + (i - 1) * 108, none⟩)) 39 rfl (by kernel_rfl) (fun w' hS => exec_fieldG _ _ 0 0 rfl b (o + (i - 1) * 108) rfl (by kernel_rfl) _ (by first | rfl | omega)) ?_
      simp only [Act.put, s1_, s2_, s3_]
      refine qw_val (v := .string (strOfNums y.name)) 40 rfl (by kernel_rfl) (fun w' hS => exec_load_one _ _ rfl b (o + (i - 1) * 108) rfl _ Tryd.underlying9 rfl _ ((hS.cell (p := ⟨b, o + (i - 1) * 108, none⟩) hbq).trans HNY.out)) ?_
      simp only [Act.put, s1_, s2_, s3_]
      refine qw_val (v := .bool true) 41 rfl (by kernel_rfl) (fun w' hS => exec_leq_name _ _ _ rfl x.name y.name rfl rfl HXB.out HYB.out true HLE.out) ?_
      simp only [Act.put, s1_, s2_, s3_]
      refine qw_val (v := .bool true) 42 rfl (by kernel_rfl) (fun w' hS => exec_pickG _ _ _ rfl true rfl _ rfl) ?_
      simp only [Act.put, s1_, s2_, s3_]
      refine qw_val (v := .bool true) 43 rfl (by kernel_rfl) (fun w' hS => exec_pickG _ _ _ rfl false rfl _ rfl) ?_
      simp only [Act.put, s1_, s2_, s3_]
      refine qw_val (v := .bool true) 44 rfl (by kernel_rfl) (fun w' hS => exec_move _ rfl (.bool true) rfl) ?_
      simp only [Act.put, s1_, s2_, s3_]
      refine qw_skip 45 rfl (by kernel_rfl) ?_
      simp only [Act.put, s1_, s2_, s3_]
      refine qw_skip 46 rfl (by kernel_rfl) ?_
      simp only [Act.put, s1_, s2_, s3_]
      refine qw_skip 47 rfl (by kernel_rfl) ?_
      simp only [Act.put, s1_, s2_, s3_]
      refine qw_skip 48 rfl (by kernel_rfl) ?_
      simp only [Act.put, s1_, s2_, s3_]
      refine qw_val (v := .bool true) 49 rfl (by kernel_rfl) (fun w' hS => exec_pickG _ _ _ rfl true rfl _ rfl) ?_
      simp only [Act.put, s1_, s2_, s3_]
      refine qw_val (v := .bool true) 50 rfl (by kernel_rfl) (fun w' hS => exec_move _ rfl (.bool true) rfl) ?_
      simp only [Act.put, s1_, s2_, s3_]
      refine qw_skip 51 rfl (by kernel_rfl) ?_
      simp only [Act.put, s1_, s2_, s3_]
      refine qw_skip 52 rfl (by kernel_rfl) ?_
      simp only [Act.put, s1_, s2_, s3_]
      refine qw_skip 53 rfl (by kernel_rfl) ?_
      simp only [Act.put, s1_, s2_, s3_]
      refine qw_val (v := .bool true) 54 rfl (by kernel_rfl) (fun w' hS => exec_pickG _ _ _ rfl true rfl _ rfl) ?_
      simp only [Act.put, s1_, s2_, s3_]
      refine qw_nil ?_
      intro w8 hS
      go_wp2_with fail
      go_meet
      exact ⟨by rw [HGB.out]; rfl, hS⟩
     have HHD := hide (show headG (prevN l i) x.name = true by rw [HHQ.out]; rfl)
     by_cases hv : x.read.Valid
     case neg =>
      have HGB := hide (show good = false by rw [← HGOOD.out, decide_eq_false hv]; simp)
      have HVAL := hide (HVALq.out false (decide_eq_false hv))
      refine wp_region_qw (Below wq.heap.size wq) (by kernel_rfl) (by kernel_rfl) (Below.refl _ _).drew ?_
      refine qw_val (v := .pointer (some ⟨g4, 0, none⟩)) 19 rfl (by kernel_rfl) (fun w' hS => exec_fieldG _ _ 0 0 rfl g4 0 rfl (by kernel_rfl) _ (by first | rfl | omega)) ?_
      simp only [Act.put, s1_, s2_, s3_]
      refine qw_val (v := .string (strOfNums x.name)) 20 rfl (by kernel_rfl) (fun w' hS => exec_load_one _ _ rfl g4 0 rfl _ Tryd.underlying9 rfl _ ((hS.cell (p := ⟨g4, 0, none⟩) hg4).trans HNX.out)) ?_
      simp only [Act.put, s1_, s2_, s3_]
      refine qw_val (v := .int .i64 ((x.name.length : Int))) 21 rfl (by kernel_rfl) (fun w' hS => exec_len_strN _ rfl x.name rfl) ?_
      simp only [Act.put, s1_, s2_, s3_]
      refine qw_val (v := .bool false) 22 rfl (by kernel_rfl) (fun w' hS => exec_lss_i64 _ _ _ _ rfl ((x.name.length : Int)) 1 rfl rfl _ HLO.out) ?_
      simp only [Act.put, s1_, s2_, s3_]
      refine qw_val (v := .bool false) 23 rfl (by kernel_rfl) (fun w' hS => exec_move _ rfl (.bool false) rfl) ?_
      simp only [Act.put, s1_, s2_, s3_]
      refine qw_val (v := .pointer (some ⟨g4, 0, none⟩)) 24 rfl (by kernel_rfl) (fun w' hS => exec_fieldG _ _ 0 0 rfl g4 0 rfl (by kernel_rfl) _ (by first | rfl | omega)) ?_
      simp only [Act.put, s1_, s2_, s3_]
      refine qw_val (v := .string (strOfNums x.name)) 25 rfl (by kernel_rfl) (fun w' hS => exec_load_one _ _ rfl g4 0 rfl _ Tryd.underlying9 rfl _ ((hS.cell (p := ⟨g4, 0, none⟩) hg4).trans HNX.out)) ?_
      simp only [Act.put, s1_, s2_, s3_]
      refine qw_val (v := .int .i64 ((x.name.length : Int))) 26 rfl (by kernel_rfl) (fun w' hS => exec_len_strN _ rfl x.name rfl) ?_
      simp only [Act.put, s1_, s2_, s3_]
      refine qw_val (v := .bool false) 27 rfl (by kernel_rfl) (fun w' hS => exec_gtr_i64 _ _ _ _ rfl ((x.name.length : Int)) 64 rfl rfl _ HHI.out) ?_
      simp only [Act.put, s1_, s2_, s3_]
      refine qw_val (v := .bool false) 28 rfl (by kernel_rfl) (fun w' hS => exec_pickG _ _ _ rfl false rfl _ rfl) ?_
      simp only [Act.put, s1_, s2_, s3_]
      refine qw_val (v := .bool false) 29 rfl (by kernel_rfl) (fun w' hS => exec_move _ rfl (.bool false) rfl) ?_
      simp only [Act.put, s1_, s2_, s3_]
      refine qw_val (v := .int .i64 ((i : Int))) 30 rfl (by kernel_rfl) (fun w' hS => exec_move _ rfl (.int .i64 ((i : Int))) rfl) ?_
      simp only [Act.put, s1_, s2_, s3_]
      refine qw_val (v := .bool true) 31 rfl (by kernel_rfl) (fun w' hS => exec_gtr_i64 _ _ _ _ rfl ((i : Int)) 0 rfl rfl _ HGT.out) ?_
      simp only [Act.put, s1_, s2_, s3_]
      refine qw_val (v := .bool true) 32 rfl (by kernel_rfl) (fun w' hS => exec_move _ rfl (.bool true) rfl) ?_
      simp only [Act.put, s1_, s2_, s3_]
      refine qw_val (v := .pointer (some ⟨g4, 0, none⟩)) 33 rfl (by kernel_rfl) (fun w' hS => exec_fieldG _ _ 0 0 rfl g4 0 rfl (by kernel_rfl) _ (by first | rfl | omega)) ?_
      simp only [Act.put, s1_, s2_, s3_]
      refine qw_val (v := .string (strOfNums x.name)) 34 rfl (by kernel_rfl) (fun w' hS => exec_load_one _ _ rfl g4 0 rfl _ Tryd.underlying9 rfl _ ((hS.cell (p := ⟨g4, 0, none⟩) hg4).trans HNX.out)) ?_
      simp only [Act.put, s1_, s2_, s3_]
      refine qw_val (v := .slice (some ⟨b, o, none⟩) n c) 35 rfl (by kernel_rfl) (fun w' hS => exec_move _ rfl (.slice (some ⟨b, o, none⟩) n c) rfl) ?_
      simp only [Act.put, s1_, s2_, s3_]
      refine qw_val (v := .int .i64 ((i : Int))) 36 rfl (by kernel_rfl) (fun w' hS => exec_move _ rfl (.int .i64 ((i : Int))) rfl) ?_
      simp only [Act.put, s1_, s2_, s3_]
      refine qw_val (v := .int .i64 (((i - 1 : Nat) : Int))) 37 rfl (by kernel_rfl) (fun w' hS => exec_subG _ _ _ rfl _ _ _ rfl rfl (by omega) (by omega)) ?_
      simp only [Act.put, s1_, s2_, s3_]
      refine qw_val (v := .pointer (some ⟨b, o + (i - 1) * 108, none⟩)) 38 rfl (by kernel_rfl) (fun w' hS => exec_indexG _ _ _ rfl _ n c b o 108 (i - 1) rfl rfl rfl (by omega) (by kernel_rfl) _ (by omega)) ?_
      simp only [Act.put, s1_, s2_, s3_]
      refine qw_val (v := .pointer (some ⟨b, o + (i - 1) * 108, none⟩)) 39 rfl (by kernel_rfl) (fun w' hS => exec_fieldG _ _ 0 0 rfl b (o + (i - 1) * 108) rfl (by kernel_rfl) _ (by first | rfl | omega)) ?_
      simp only [Act.put, s1_, s2_, s3_]
      refine qw_val (v := .string (strOfNums y.name)) 40 rfl (by kernel_rfl) (fun w' hS => exec_load_one _ _ rfl b (o + (i - 1) * 108) rfl _ Tryd.underlying9 rfl _ ((hS.cell (p := ⟨b, o + (i - 1) * 108, none⟩) hbq).trans HNY.out)) ?_
      simp only [Act.put, s1_, s2_, s3_]
      refine qw_val (v := .bool false) 41 rfl (by kernel_rfl) (fun w' hS => exec_leq_name _ _ _ rfl x.name y.name rfl rfl HXB.out HYB.out false HLE.out) ?_
      simp only [Act.put, s1_, s2_, s3_]
      refine qw_val (v := .bool false) 42 rfl (by kernel_rfl) (fun w' hS => exec_pickG _ _ _ rfl true rfl _ rfl) ?_
      simp only [Act.put, s1_, s2_, s3_]
      refine qw_val (v := .bool false) 43 rfl (by kernel_rfl) (fun w' hS => exec_pickG _ _ _ rfl false rfl _ rfl) ?_
      simp only [Act.put, s1_, s2_, s3_]
      refine qw_val (v := .bool false) 44 rfl (by kernel_rfl) (fun w' hS => exec_move _ rfl (.bool false) rfl) ?_
      simp only [Act.put, s1_, s2_, s3_]
      refine qw_val (v := .pointer (some ⟨g4, 1, none⟩)) 45 rfl (by kernel_rfl) (fun w' hS => exec_fieldG _ _ 1 1 rfl g4 0 rfl (by kernel_rfl) _ (by first | rfl | omega)) ?_
      simp only [Act.put, s1_, s2_, s3_]
      refine qw_val (v := .agg (capCells x.read lr).toArray) 46 rfl (by kernel_rfl) (fun w' hS => exec_loadAll _ _ rfl g4 1 rfl _ _ (fun j u hu => (hS.cell (p := ⟨g4, 1 + j, none⟩) hg4).trans (HCR.out j u hu)) Tryd.underlying28 rfl HSR.out) ?_
      simp only [Act.put, s1_, s2_, s3_]
      refine qw_call (v := .bool false) 47 rfl (by kernel_rfl) 34 #[.agg (capCells x.read lr).toArray] (fun w' => exec_call _ _ _ rfl _ (by simp [Act.eval]) (by go_simp)) (fun w' hS => HVAL.out w' hS) ?_
      simp only [Act.put, s1_, s2_, s3_]
      refine qw_val (v := .bool true) 48 rfl (by kernel_rfl) (fun w' hS => exec_notG _ _ rfl false rfl _ rfl) ?_
      simp only [Act.put, s1_, s2_, s3_]
      refine qw_val (v := .bool true) 49 rfl (by kernel_rfl) (fun w' hS => exec_pickG _ _ _ rfl false rfl _ rfl) ?_
      simp only [Act.put, s1_, s2_, s3_]
      refine qw_val (v := .bool true) 50 rfl (by kernel_rfl) (fun w' hS => exec_move _ rfl (.bool true) rfl) ?_
      simp only [Act.put, s1_, s2_, s3_]
      refine qw_skip 51 rfl (by kernel_rfl) ?_
      simp only [Act.put, s1_, s2_, s3_]
      refine qw_skip 52 rfl (by kernel_rfl) ?_
      simp only [Act.put, s1_, s2_, s3_]
      refine qw_skip 53 rfl (by kernel_rfl) ?_
      simp only [Act.put, s1_, s2_, s3_]
      refine qw_val (v := .bool true) 54 rfl (by kernel_rfl) (fun w' hS => exec_pickG _ _ _ rfl true rfl _ rfl) ?_
      simp only [Act.put, s1_, s2_, s3_]
      refine qw_nil ?_
      intro w8 hS
      go_wp2_with fail
      go_meet
      exact ⟨by rw [HGB.out]; rfl, hS⟩
     have HVAL := hide (HVALq.out true (decide_eq_true hv))
     rcases hwr : writeF x.read with _ | _
     case true =>
      have HGB := hide (show good = false by rw [← HGOOD.out, hwr]; simp)
      have HWRI := hide (HWRIq.out true hwr)
      refine wp_region_qw (Below wq.heap.size wq) (by kernel_rfl) (by kernel_rfl) (Below.refl _ _).drew ?_
      refine qw_val (v := .pointer (some ⟨g4, 0, none⟩)) 19 rfl (by kernel_rfl) (fun w' hS => exec_fieldG _ _ 0 0 rfl g4 0 rfl (by kernel_rfl) _ (by first | rfl | omega)) ?_
      simp only [Act.put, s1_, s2_, s3_]
      refine qw_val (v := .string (strOfNums x.name)) 20 rfl (by kernel_rfl) (fun w' hS => exec_load_one _ _ rfl g4 0 rfl _ Tryd.underlying9 rfl _ ((hS.cell (p := ⟨g4, 0, none⟩) hg4).trans HNX.out)) ?_
      simp only [Act.put, s1_, s2_, s3_]
      refine qw_val (v := .int .i64 ((x.name.length : Int))) 21 rfl (by kernel_rfl) (fun w' hS => exec_len_strN _ rfl x.name rfl) ?_
      simp only [Act.put, s1_, s2_, s3_]
      refine qw_val (v := .bool false) 22 rfl (by kernel_rfl) (fun w' hS => exec_lss_i64 _ _ _ _ rfl ((x.name.length : Int)) 1 rfl rfl _ HLO.out) ?_
      simp only [Act.put, s1_, s2_, s3_]
      refine qw_val (v := .bool false) 23 rfl (by kernel_rfl) (fun w' hS => exec_move _ rfl (.bool false) rfl) ?_
      simp only [Act.put, s1_, s2_, s3_]
      refine qw_val (v := .pointer (some ⟨g4, 0, none⟩)) 24 rfl (by kernel_rfl) (fun w' hS => exec_fieldG _ _ 0 0 rfl g4 0 rfl (by kernel_rfl) _ (by first | rfl | omega)) ?_
      simp only [Act.put, s1_, s2_, s3_]
      refine qw_val (v := .string (strOfNums x.name)) 25 rfl (by kernel_rfl) (fun w' hS => exec_load_one _ _ rfl g4 0 rfl _ Tryd.underlying9 rfl _ ((hS.cell (p := ⟨g4, 0, none⟩) hg4).trans HNX.out)) ?_
      simp only [Act.put, s1_, s2_, s3_]
      refine qw_val (v := .int .i64 ((x.name.length : Int))) 26 rfl (by kernel_rfl) (fun w' hS => exec_len_strN _ rfl x.name rfl) ?_
      simp only [Act.put, s1_, s2_, s3_]
      refine qw_val (v := .bool false) 27 rfl (by kernel_rfl) (fun w' hS => exec_gtr_i64 _ _ _ _ rfl ((x.name.length : Int)) 64 rfl rfl _ HHI.out) ?_
      simp only [Act.put, s1_, s2_, s3_]
      refine qw_val (v := .bool false) 28 rfl (by kernel_rfl) (fun w' hS => exec_pickG _ _ _ rfl false rfl _ rfl) ?_
      simp only [Act.put, s1_, s2_, s3_]
      refine qw_val (v := .bool false) 29 rfl (by kernel_rfl) (fun w' hS => exec_move _ rfl (.bool false) rfl) ?_
      simp only [Act.put, s1_, s2_, s3_]
      refine qw_val (v := .int .i64 ((i : Int))) 30 rfl (by kernel_rfl) (fun w' hS => exec_move _ rfl (.int .i64 ((i : Int))) rfl) ?_
      simp only [Act.put, s1_, s2_, s3_]
      refine qw_val (v := .bool true) 31 rfl (by kernel_rfl) (fun w' hS => exec_gtr_i64 _ _ _ _ rfl ((i : Int)) 0 rfl rfl _ HGT.out) ?_
      simp only [Act.put, s1_, s2_, s3_]
      refine qw_val (v := .bool true) 32 rfl (by kernel_rfl) (fun w' hS => exec_move _ rfl (.bool true) rfl) ?_
      simp only [Act.put, s1_, s2_, s3_]
      refine qw_val (v := .pointer (some ⟨g4, 0, none⟩)) 33 rfl (by kernel_rfl) (fun w' hS => exec_fieldG _ _ 0 0 rfl g4 0 rfl (by kernel_rfl) _ (by first | rfl | omega)) ?_
      simp only [Act.put, s1_, s2_, s3_]
      refine qw_val (v := .string (strOfNums x.name)) 34 rfl (by kernel_rfl) (fun w' hS => exec_load_one _ _ rfl g4 0 rfl _ Tryd.underlying9 rfl _ ((hS.cell (p := ⟨g4, 0, none⟩) hg4).trans HNX.out)) ?_
      simp only [Act.put, s1_, s2_, s3_]
      refine qw_val (v := .slice (some ⟨b, o, none⟩) n c) 35 rfl (by kernel_rfl) (fun w' hS => exec_move _ rfl (.slice (some ⟨b, o, none⟩) n c) rfl) ?_
      simp only [Act.put, s1_, s2_, s3_]
      refine qw_val (v := .int .i64 ((i : Int))) 36 rfl (by kernel_rfl) (fun w' hS => exec_move _ rfl (.int .i64 ((i : Int))) rfl) ?_
      simp only [Act.put, s1_, s2_, s3_]
      refine qw_val (v := .int .i64 (((i - 1 : Nat) : Int))) 37 rfl (by kernel_rfl) (fun w' hS => exec_subG _ _ _ rfl _ _ _ rfl rfl (by omega) (by omega)) ?_
      simp only [Act.put, s1_, s2_, s3_]
      refine qw_val (v := .pointer (some ⟨b, o + (i - 1) * 108, none⟩)) 38 rfl (by kernel_rfl) (fun w' hS => exec_indexG _ _ _ rfl _ n c b o 108 (i - 1) rfl rfl rfl (by omega) (by kernel_rfl) _ (by omega)) ?_
      simp only [Act.put, s1_, s2_, s3_]
      refine qw_val (v := .pointer (some ⟨b, o + (i - 1) * 108, none⟩)) 39 rfl (by kernel_rfl) (fun w' hS => exec_fieldG _ _ 0 0 rfl b (o + (i - 1) * 108) rfl (by kernel_rfl) _ (by first | rfl | omega)) ?_
      simp only [Act.put, s1_, s2_, s3_]
      refine qw_val (v := .string (strOfNums y.name)) 40 rfl (by kernel_rfl) (fun w' hS => exec_load_one _ _ rfl b (o + (i - 1) * 108) rfl _ Tryd.underlying9 rfl _ ((hS.cell (p := ⟨b, o + (i - 1) * 108, none⟩) hbq).trans HNY.out)) ?_
      simp only [Act.put, s1_, s2_, s3_]
      refine qw_val (v := .bool false) 41 rfl (by kernel_rfl) (fun w' hS => exec_leq_name _ _ _ rfl x.name y.name rfl rfl HXB.out HYB.out false HLE.out) ?_
      simp only [Act.put, s1_, s2_, s3_]
      refine qw_val (v := .bool false) 42 rfl (by kernel_rfl) (fun w' hS => exec_pickG _ _ _ rfl true rfl _ rfl) ?_
      simp only [Act.put, s1_, s2_, s3_]
      refine qw_val (v := .bool false) 43 rfl (by kernel_rfl) (fun w' hS => exec_pickG _ _ _ rfl false rfl _ rfl) ?_
      simp only [Act.put, s1_, s2_, s3_]
      refine qw_val (v := .bool false) 44 rfl (by kernel_rfl) (fun w' hS => exec_move _ rfl (.bool false) rfl) ?_
      simp only [Act.put, s1_, s2_, s3_]
      refine qw_val (v := .pointer (some ⟨g4, 1, none⟩)) 45 rfl (by kernel_rfl) (fun w' hS => exec_fieldG _ _ 1 1 rfl g4 0 rfl (by kernel_rfl) _ (by first | rfl | omega)) ?_
      simp only [Act.put, s1_, s2_, s3_]
      refine qw_val (v := .agg (capCells x.read lr).toArray) 46 rfl (by kernel_rfl) (fun w' hS => exec_loadAll _ _ rfl g4 1 rfl _ _ (fun j u hu => (hS.cell (p := ⟨g4, 1 + j, none⟩) hg4).trans (HCR.out j u hu)) Tryd.underlying28 rfl HSR.out) ?_
      simp only [Act.put, s1_, s2_, s3_]
      refine qw_call (v := .bool true) 47 rfl (by kernel_rfl) 34 #[.agg (capCells x.read lr).toArray] (fun w' => exec_call _ _ _ rfl _ (by simp [Act.eval]) (by go_simp)) (fun w' hS => HVAL.out w' hS) ?_
      simp only [Act.put, s1_, s2_, s3_]
      refine qw_val (v := .bool false) 48 rfl (by kernel_rfl) (fun w' hS => exec_notG _ _ rfl true rfl _ rfl) ?_
      simp only [Act.put, s1_, s2_, s3_]
      refine qw_val (v := .bool false) 49 rfl (by kernel_rfl) (fun w' hS => exec_pickG _ _ _ rfl false rfl _ rfl) ?_
      simp only [Act.put, s1_, s2_, s3_]
      refine qw_val (v := .bool false) 50 rfl (by kernel_rfl) (fun w' hS => exec_move _ rfl (.bool false) rfl) ?_
      simp only [Act.put, s1_, s2_, s3_]
      refine qw_val (v := .pointer (some ⟨g4, 1, none⟩)) 51 rfl (by kernel_rfl) (fun w' hS => exec_fieldG _ _ 1 1 rfl g4 0 rfl (by kernel_rfl) _ (by first | rfl | omega)) ?_
      simp only [Act.put, s1_, s2_, s3_]
      refine qw_val (v := .agg (capCells x.read lr).toArray) 52 rfl (by kernel_rfl) (fun w' hS => exec_loadAll _ _ rfl g4 1 rfl _ _ (fun j u hu => (hS.cell (p := ⟨g4, 1 + j, none⟩) hg4).trans (HCR.out j u hu)) Tryd.underlying28 rfl HSR.out) ?_
      simp only [Act.put, s1_, s2_, s3_]
      refine qw_call (v := .bool true) 53 rfl (by kernel_rfl) 39 #[.agg (capCells x.read lr).toArray] (fun w' => exec_call _ _ _ rfl _ (by simp [Act.eval]) (by go_simp)) (fun w' hS => HWRI.out w' hS) ?_
      simp only [Act.put, s1_, s2_, s3_]
      refine qw_val (v := .bool true) 54 rfl (by kernel_rfl) (fun w' hS => exec_pickG _ _ _ rfl false rfl _ rfl) ?_
      simp only [Act.put, s1_, s2_, s3_]
      refine qw_nil ?_
      intro w8 hS
      go_wp2_with fail
      go_meet
      exact ⟨by rw [HGB.out]; rfl, hS⟩
     have HGB := hide (show good = true by rw [← HGOOD.out, decide_eq_true hv, hwr, decide_eq_true hlen, HHD.out]; rfl)
     have HWRI := hide (HWRIq.out false hwr)
     refine wp_region_qw (Below wq.heap.size wq) (by kernel_rfl) (by kernel_rfl) (Below.refl _ _).drew ?_
     refine qw_val (v := .pointer (some ⟨g4, 0, none⟩)) 19 rfl (by kernel_rfl) (fun w' hS => exec_fieldG _ _ 0 0 rfl g4 0 rfl (by kernel_rfl) _ (by first | rfl | omega)) ?_
     simp only [Act.put, s1_, s2_, s3_]
     refine qw_val (v := .string (strOfNums x.name)) 20 rfl (by kernel_rfl) (fun w' hS => exec_load_one _ _ rfl g4 0 rfl _ Tryd.underlying9 rfl _ ((hS.cell (p := ⟨g4, 0, none⟩) hg4).trans HNX.out)) ?_
     simp only [Act.put, s1_, s2_, s3_]
     refine qw_val (v := .int .i64 ((x.name.length : Int))) 21 rfl (by kernel_rfl) (fun w' hS => exec_len_strN _ rfl x.name rfl) ?_
     simp only [Act.put, s1_, s2_, s3_]
     refine qw_val (v := .bool false) 22 rfl (by kernel_rfl) (fun w' hS => exec_lss_i64 _ _ _ _ rfl ((x.name.length : Int)) 1 rfl rfl _ HLO.out) ?_
     simp only [Act.put, s1_, s2_, s3_]
     refine qw_val (v := .bool false) 23 rfl (by kernel_rfl) (fun w' hS => exec_move _ rfl (.bool false) rfl) ?_
     simp only [Act.put, s1_, s2_, s3_]
     refine qw_val (v := .pointer (some ⟨g4, 0, none⟩)) 24 rfl (by kernel_rfl) (fun w' hS => exec_fieldG _ _ 0 0 rfl g4 0 rfl (by kernel_rfl) _ (by first | rfl | omega)) ?_
     simp only [Act.put, s1_, s2_, s3_]
     refine qw_val (v := .string (strOfNums x.name)) 25 rfl (by kernel_rfl) (fun w' hS => exec_load_one _ _ rfl g4 0 rfl _ Tryd.underlying9 rfl _ ((hS.cell (p := ⟨g4, 0, none⟩) hg4).trans HNX.out)) ?_
     simp only [Act.put, s1_, s2_, s3_]
     refine qw_val (v := .int .i64 ((x.name.length : Int))) 26 rfl (by kernel_rfl) (fun w' hS => exec_len_strN _ rfl x.name rfl) ?_
     simp only [Act.put, s1_, s2_, s3_]
     refine qw_val (v := .bool false) 27 rfl (by kernel_rfl) (fun w' hS => exec_gtr_i64 _ _ _ _ rfl ((x.name.length : Int)) 64 rfl rfl _ HHI.out) ?_
     simp only [Act.put, s1_, s2_, s3_]
     refine qw_val (v := .bool false) 28 rfl (by kernel_rfl) (fun w' hS => exec_pickG _ _ _ rfl false rfl _ rfl) ?_
     simp only [Act.put, s1_, s2_, s3_]
     refine qw_val (v := .bool false) 29 rfl (by kernel_rfl) (fun w' hS => exec_move _ rfl (.bool false) rfl) ?_
     simp only [Act.put, s1_, s2_, s3_]
     refine qw_val (v := .int .i64 ((i : Int))) 30 rfl (by kernel_rfl) (fun w' hS => exec_move _ rfl (.int .i64 ((i : Int))) rfl) ?_
     simp only [Act.put, s1_, s2_, s3_]
     refine qw_val (v := .bool true) 31 rfl (by kernel_rfl) (fun w' hS => exec_gtr_i64 _ _ _ _ rfl ((i : Int)) 0 rfl rfl _ HGT.out) ?_
     simp only [Act.put, s1_, s2_, s3_]
     refine qw_val (v := .bool true) 32 rfl (by kernel_rfl) (fun w' hS => exec_move _ rfl (.bool true) rfl) ?_
     simp only [Act.put, s1_, s2_, s3_]
     refine qw_val (v := .pointer (some ⟨g4, 0, none⟩)) 33 rfl (by kernel_rfl) (fun w' hS => exec_fieldG _ _ 0 0 rfl g4 0 rfl (by kernel_rfl) _ (by first | rfl | omega)) ?_
     simp only [Act.put, s1_, s2_, s3_]
     refine qw_val (v := .string (strOfNums x.name)) 34 rfl (by kernel_rfl) (fun w' hS => exec_load_one _ _ rfl g4 0 rfl _ Tryd.underlying9 rfl _ ((hS.cell (p := ⟨g4, 0, none⟩) hg4).trans HNX.out)) ?_
     simp only [Act.put, s1_, s2_, s3_]
     refine qw_val (v := .slice (some ⟨b, o, none⟩) n c) 35 rfl (by kernel_rfl) (fun w' hS => exec_move _ rfl (.slice (some ⟨b, o, none⟩) n c) rfl) ?_
     simp only [Act.put, s1_, s2_, s3_]
     refine qw_val (v := .int .i64 ((i : Int))) 36 rfl (by kernel_rfl) (fun w' hS => exec_move _ rfl (.int .i64 ((i : Int))) rfl) ?_
     simp only [Act.put, s1_, s2_, s3_]
     refine qw_val (v := .int .i64 (((i - 1 : Nat) : Int))) 37 rfl (by kernel_rfl) (fun w' hS => exec_subG _ _ _ rfl _ _ _ rfl rfl (by omega) (by omega)) ?_
     simp only [Act.put, s1_, s2_, s3_]
     refine qw_val (v := .pointer (some ⟨b, o + (i - 1) * 108, none⟩)) 38 rfl (by kernel_rfl) (fun w' hS => exec_indexG _ _ _ rfl _ n c b o 108 (i - 1) rfl rfl rfl (by omega) (by kernel_rfl) _ (by omega)) ?_
     simp only [Act.put, s1_, s2_, s3_]
     refine qw_val (v := .pointer (some ⟨b, o + (i - 1) * 108, none⟩)) 39 rfl (by kernel_rfl) (fun w' hS => exec_fieldG _ _ 0 0 rfl b (o + (i - 1) * 108) rfl (by kernel_rfl) _ (by first | rfl | omega)) ?_
     simp only [Act.put, s1_, s2_, s3_]
     refine qw_val (v := .string (strOfNums y.name)) 40 rfl (by kernel_rfl) (fun w' hS => exec_load_one _ _ rfl b (o + (i - 1) * 108) rfl _ Tryd.underlying9 rfl _ ((hS.cell (p := ⟨b, o + (i - 1) * 108, none⟩) hbq).trans HNY.out)) ?_
     simp only [Act.put, s1_, s2_, s3_]
     refine qw_val (v := .bool false) 41 rfl (by kernel_rfl) (fun w' hS => exec_leq_name _ _ _ rfl x.name y.name rfl rfl HXB.out HYB.out false HLE.out) ?_
     simp only [Act.put, s1_, s2_, s3_]
     refine qw_val (v := .bool false) 42 rfl (by kernel_rfl) (fun w' hS => exec_pickG _ _ _ rfl true rfl _ rfl) ?_
     simp only [Act.put, s1_, s2_, s3_]
     refine qw_val (v := .bool false) 43 rfl (by kernel_rfl) (fun w' hS => exec_pickG _ _ _ rfl false rfl _ rfl) ?_
     simp only [Act.put, s1_, s2_, s3_]
     refine qw_val (v := .bool false) 44 rfl (by kernel_rfl) (fun w' hS => exec_move _ rfl (.bool false) rfl) ?_
     simp only [Act.put, s1_, s2_, s3_]
     refine qw_val (v := .pointer (some ⟨g4, 1, none⟩)) 45 rfl (by kernel_rfl) (fun w' hS => exec_fieldG _ _ 1 1 rfl g4 0 rfl (by kernel_rfl) _ (by first | rfl | omega)) ?_
     simp only [Act.put, s1_, s2_, s3_]
     refine qw_val (v := .agg (capCells x.read lr).toArray) 46 rfl (by kernel_rfl) (fun w' hS => exec_loadAll _ _ rfl g4 1 rfl _ _ (fun j u hu => (hS.cell (p := ⟨g4, 1 + j, none⟩) hg4).trans (HCR.out j u hu)) Tryd.underlying28 rfl HSR.out) ?_
     simp only [Act.put, s1_, s2_, s3_]
     refine qw_call (v := .bool true) 47 rfl (by kernel_rfl) 34 #[.agg (capCells x.read lr).toArray] (fun w' => exec_call _ _ _ rfl _ (by simp [Act.eval]) (by go_simp)) (fun w' hS => HVAL.out w' hS) ?_
     simp only [Act.put, s1_, s2_, s3_]
     refine qw_val (v := .bool false) 48 rfl (by kernel_rfl) (fun w' hS => exec_notG _ _ rfl true rfl _ rfl) ?_
     simp only [Act.put, s1_, s2_, s3_]
     refine qw_val (v := .bool false) 49 rfl (by kernel_rfl) (fun w' hS => exec_pickG _ _ _ rfl false rfl _ rfl) ?_
     simp only [Act.put, s1_, s2_, s3_]
     refine qw_val (v := .bool false) 50 rfl (by kernel_rfl) (fun w' hS => exec_move _ rfl (.bool false) rfl) ?_
     simp only [Act.put, s1_, s2_, s3_]
     refine qw_val (v := .pointer (some ⟨g4, 1, none⟩)) 51 rfl (by kernel_rfl) (fun w' hS => exec_fieldG _ _ 1 1 rfl g4 0 rfl (by kernel_rfl) _ (by first | rfl | omega)) ?_
     simp only [Act.put, s1_, s2_, s3_]
     refine qw_val (v := .agg (capCells x.read lr).toArray) 52 rfl (by kernel_rfl) (fun w' hS => exec_loadAll _ _ rfl g4 1 rfl _ _ (fun j u hu => (hS.cell (p := ⟨g4, 1 + j, none⟩) hg4).trans (HCR.out j u hu)) Tryd.underlying28 rfl HSR.out) ?_
     simp only [Act.put, s1_, s2_, s3_]
     refine qw_call (v := .bool false) 53 rfl (by kernel_rfl) 39 #[.agg (capCells x.read lr).toArray] (fun w' => exec_call _ _ _ rfl _ (by simp [Act.eval]) (by go_simp)) (fun w' hS => HWRI.out w' hS) ?_
     simp only [Act.put, s1_, s2_, s3_]
     refine qw_val (v := .bool false) 54 rfl (by kernel_rfl) (fun w' hS => exec_pickG _ _ _ rfl false rfl _ rfl) ?_
     simp only [Act.put, s1_, s2_, s3_]
     refine qw_nil ?_
     intro w8 hS
     go_wp2_with fail
     go_meet
     exact ⟨by rw [HGB.out]; rfl, hS⟩
    obtain ⟨rfl, hS⟩ := hcut
    rw [HGOOD.out] at HAT
    have HR1 := hide (show r0 = (good && (tailB x && rightG (prevN l (i + 1)) (l.drop (i + 1)))) by rw [HRG0.out, HG.out, HAT.out])
    have HG1 := hide (show rightG none l = (good && (tailB x && rightG (prevN l (i + 1)) (l.drop (i + 1)))) by rw [HG.out, HAT.out])
    replace H4 := hide (H4.out.below hS hg4)
    replace HB := hide (HB.out.trans (hS.mono hzq))
    have hz8 := HB.out.size
    clear hS HVALq HWRIq HGOOD HG HAT HNX HCR
    rcases good with _ | _
    case false =>
     have HF := hide (show r0 = false by rw [HR1.out]; rfl)
     go_wp2_with fail
     go_ret
     exact ⟨by rw [HF.out]; rfl, HB.out⟩
    have HWRR := hide (fun (j : Nat) (u : Value) (hu : (capCells x.read lr)[j]? = some u) => show (entC x lr lw)[1 + j]? = some u from ent_read HOK.out j u hu)
    have HWRW := hide (fun (j : Nat) (u : Value) (hu : (capCells x.write lw)[j]? = some u) => show (entC x lr lw)[54 + j]? = some u from ent_write HOK.out j u hu)
    have HH := hide (ent_has HOK.out)
    have HWW := hide (And.intro HOK.out.rWf HOK.out.wWf)
    obtain ⟨q4, HQ4⟩ : ∃ q, Hid (x.has = q) := ⟨_, hide rfl⟩
    rw [HQ4.out] at HH
    have HTB := hide (show tailB x = if q4 then (writeF x.write && sameF (roF x.write) x.read) else sameF x.write CapD.none_ by rw [← HQ4.out]; rfl)
    rw [HTB.out] at HR1 HG1
    rcases q4 with _ | _
    case false =>
     go_wp2_with (first
      | go_skip
      | (refine wpList_st_get 4 _ rfl 107 rfl rfl H4.out _ Tryd.underlying4 rfl _ HH.out ?_)
      | (refine wpList_st_build 28 _ rfl rfl (capCells CapD.none_ (.slice none 0 0)) built_cap ?_)
      | (refine wpList_val_ rfl (exec_loadAll 28 _ rfl g4 54 rfl _ (capCells x.write lw) (blk_range H4.out 54 _ HWRW.out) Tryd.underlying28 rfl HSW.out) ?_))
     refine (same_capR x.write CapD.none_ lw (.slice none 0 0) wc HWW.out.2.keyL HWW.out.2.fpL rfl rfl ((HOK.out.w1.below HB.out (Nat.le_refl _)).more hz8) (Bs.nil_ _ _) HWW.out.2.litB CapD.none_wf.litB).mono ?_
     rintro _ w9 ⟨rfl, hb9⟩
     replace HB := hide (HB.out.trans (hb9.mono hz8))
     clear hb9
     obtain ⟨qs, HQS⟩ : ∃ q, Hid (sameF x.write CapD.none_ = q) := ⟨_, hide rfl⟩
     rw [HQS.out] at HR1 HG1 ⊢
     rcases qs with _ | _
     case false =>
      have HF := hide (show r0 = false by rw [HR1.out]; rfl)
      go_wp2_with fail
      go_ret
      exact ⟨by rw [HF.out]; rfl, HB.out⟩
     have HNEXT := hide (show rightG none l = rightG (prevN l (i + 1)) (l.drop (i + 1)) by rw [HG1.out]; rfl)
     go_wp2_with fail
     exact ⟨⟨i + 1, rfl, by omega, HNEXT.out, HB.out⟩, by show n - ((i : Int) + 1).toNat < n - (i : Int).toNat; omega⟩
    have HWL8 := hide (show Bs wc wc.heap.size lw x.write.lit from (HOK.out.w1.below HB.out (Nat.le_refl _)).more hz8)
    go_wp2_with (first
     | go_skip
     | (refine wpList_st_get 4 _ rfl 107 rfl rfl H4.out _ Tryd.underlying4 rfl _ HH.out ?_)
     | (refine wpList_val_ rfl (exec_loadAll 28 _ rfl g4 54 rfl _ (capCells x.write lw) (blk_range H4.out 54 _ HWRW.out) Tryd.underlying28 rfl HSW.out) ?_))
    refine (ReadOnly_ref x.write lw wc HWW.out.2 HWL8.out HLI.out.2).mono ?_
    rintro _ w9 ⟨l4, rfl, hl4, hb9⟩
    have HRO := hide (roF_wf HWW.out.2)
    have HL4 := hide hl4
    have HLO := hide hl4.one
    replace H4 := hide (H4.out.below hb9 H4.out.lt)
    replace HB := hide (HB.out.trans (hb9.mono hz8))
    have hz9 := HB.out.size
    obtain ⟨g5, HG5⟩ : ∃ k, Hid (w9.heap.size = k) := ⟨_, hide rfl⟩
    obtain ⟨ro, HROE⟩ : ∃ c, Hid (roF x.write = c) := ⟨_, hide rfl⟩
    rw [HROE.out] at HRO HL4 HR1 HG1 ⊢
    rw [show capV ro l4 = .agg (capCells ro l4).toArray from rfl]
    have HSO := hide (show (Tryd.prog.info? 28).map (·.size) = some (capCells ro l4).length by rw [cc_len l4 HRO.out.keyL HRO.out.fpL]; exact size_cap)
    have hg45 : g4 < g5 := by have := H4.out.lt; have := HG5.out; omega
    clear hl4 hb9 HWL8
    go_upto_region 13 with (first
     | (refine wpList_alloc_blk rfl 28 rfl _ zero_cap ?_; intro w5 hb5 hw5 hs5; rw [HG5.out] at hb5; try rw [HG5.out]; have H5 := hide hb5; replace H4 := hide (H4.out.below hw5 H4.out.lt); replace HL4 := hide (HL4.out.below hw5 (Nat.le_refl _)); replace HB := hide (HB.out.trans (hw5.mono hz9)); clear hb5 hw5)
     | (refine wpList_st_putAll _ _ _ rfl rfl rfl H5.out (capCells ro l4) rfl (by rw [cc_len l4 HRO.out.keyL HRO.out.fpL, cc_len _ rfl rfl]) HSO.out (cc_ones HLO.out) ?_; intro w6 hb6 hg6 hs6; replace H5 := hide hb6; replace H4 := hide (H4.out.grown hg6 (by intro e; injection e; omega)); replace HL4 := hide (HL4.out.below ((Below.refl w9.heap.size _).grown hg6 (by omega) (by intro k hk; injection hk; have := HG5.out; omega)) (Nat.le_refl _)); replace HB := hide (HB.out.grown hg6 (by have := HB.out.size; omega) (by intro k hk; injection hk; have := HG5.out; omega)); clear hb6 hg6))
    try simp only [Act.put]
    have hz6 := HB.out.size
    go_wp2_with (first
     | go_skip
     | (refine wpList_val_ rfl (exec_loadAll 28 _ rfl g4 54 rfl _ (capCells x.write lw) (blk_range H4.out 54 _ HWRW.out) Tryd.underlying28 rfl HSW.out) ?_))
    refine (write_ref x.write lw w6 HVW.out).mono ?_
    rintro _ w7 ⟨rfl, hb7⟩
    replace H4 := hide (H4.out.below hb7 H4.out.lt)
    replace H5 := hide (H5.out.below hb7 H5.out.lt)
    replace HL4 := hide (HL4.out.below hb7 (by omega))
    replace HB := hide (HB.out.trans (hb7.mono hz6))
    have hz7 := HB.out.size
    have hs7 := hb7.size
    clear hb7
    obtain ⟨q7, HQ7⟩ : ∃ q, Hid (writeF x.write = q) := ⟨_, hide rfl⟩
    rw [HQ7.out] at HR1 HG1 ⊢
    rcases q7 with _ | _
    case false =>
     have HF := hide (show r0 = false by rw [HR1.out]; rfl)
     go_wp2_with go_skip
     go_ret
     exact ⟨by rw [HF.out]; rfl, HB.out⟩
    go_wp2_with (first
     | go_skip
     | (refine wpList_st_all 28 _ rfl rfl rfl H5.out _ Tryd.underlying28 rfl HSO.out ?_)
     | (refine wpList_val_ rfl (exec_loadAll 28 _ rfl g4 1 rfl _ (capCells x.read lr) (blk_range H4.out 1 _ HWRR.out) Tryd.underlying28 rfl HSR.out) ?_))
    refine (same_capR ro x.read l4 lr w7 HRO.out.keyL HRO.out.fpL HWW.out.1.keyL HWW.out.1.fpL (HL4.out.more (by omega)) ((HOK.out.r1.below HB.out (Nat.le_refl _)).more hz7) HRO.out.litB HWW.out.1.litB).mono ?_
    rintro _ w8 ⟨rfl, hb8⟩
    replace HB := hide (HB.out.trans (hb8.mono hz7))
    clear hb8
    obtain ⟨qs, HQS⟩ : ∃ q, Hid (sameF ro x.read = q) := ⟨_, hide rfl⟩
    rw [HQS.out] at HR1 HG1 ⊢
    rcases qs with _ | _
    case false =>
     have HF := hide (show r0 = false by rw [HR1.out]; rfl)
     go_wp2_with fail
     go_ret
     exact ⟨by rw [HF.out]; rfl, HB.out⟩
    have HNEXT := hide (show rightG none l = rightG (prevN l (i + 1)) (l.drop (i + 1)) by rw [HG1.out]; rfl)
    go_wp2_with fail
    exact ⟨⟨i + 1, rfl, by omega, HNEXT.out, HB.out⟩, by show n - ((i : Int) + 1).toNat < n - (i : Int).toNat; omega⟩
  · obtain rfl : i = n := by omega
    have hlt' : ¬ (i : Int) < (i : Int) := by omega
    have HF := hide (show r0 = true by
     rw [HRG0.out, HG.out, List.drop_eq_nil_of_le (by rw [HN.out]; exact Nat.le_refl _)]
     cases prevN l i <;> rfl)
    go_wp2_with fail
    go_ret
    exact ⟨by rw [HF.out]; rfl, HB.out⟩
end Go.Proofs.YthdjgebbjogmiaaDoor
