/-
MsgsBack holds: what may be asked, and answered, is read as it was; a byte fewer or more is none. Conditions: none but the row's own.
-/
import Derived.Test.YtfinfkodjkfibaaDoorMsgAsked
import Derived.Test.YtfinfkodjkfibaaDoorBackLaw
import Derived.Test.YtfinfkodjkfibaaDoorKeepAll
import Derived.Test.YtfinfkodjkfibaaDoorWakes17
import Derived.Test.YtfinfkodjkfibaaDoorSliceFrom
import Derived.Test.YtfinfkodjkfibaaDoorTied
import Derived.Deep.CutRange
namespace Go.Proofs.YtfinfkodjkfibaaDoor.LawMsgsBack
open Go Go.RowKit Go.ChangeShapes Go.WideShapes Go.ChangeAt
set_option linter.unusedVariables false
set_option linter.unusedSimpArgs false
set_option maxRecDepth 100000
theorem World.grownBy.drew2 (w : World) (r : Option Nat) : w.grownBy w.drew r := ⟨rfl, rfl, rfl, Nat.le_refl _, fun _ _ _ => rfl⟩
theorem World.grownBy.trans_ {a b c : World} {r : Option Nat} (h : a.grownBy b r) (h' : b.grownBy c r) : a.grownBy c r :=
  ⟨h'.os.trans h.os, h'.tape.trans h.tape, h'.output.trans h.output, Nat.le_trans h.size h'.size, fun k hk hne => by rw [h'.block k (Nat.lt_of_lt_of_le hk h.size) hne, h.block k hk hne]⟩

theorem built_replyB (A : Option Addr) (n c : Nat) : Tryd.prog.built 25 [(1, .slice A n c)] = some [Value.int .i64 0, .slice A n c].toArray := by kernel_rfl
theorem built_replyE (E : Int) : Tryd.prog.built 25 [(0, .int .i64 E)] = some [Value.int .i64 E, .slice none 0 0].toArray := by kernel_rfl
set_option maxHeartbeats 16000000 in
theorem walk (w : World) (ht : Tab w w.heap.size) (r : Msg.Req) (u : Value × Value) (hin : InR r) (hu : TstsB w w.heap.size u.1 r.tests ∧ BlbsB w w.heap.size u.2 r.blobs) (er : Int) (her : In64 er) :
    Calls Tryd.prog 7 #[.agg (reqCells r u.1 u.2).toArray, .int .i64 er] w fun e w' => e = .returned (.bool true) ∧ Below w.heap.size w w' := by
  obtain ⟨ut, ub⟩ := u
  simp only at hu ⊢
  have HT := hide ht
  have HER := hide her
  have HUT := hide hu.1
  have HUB := hide hu.2
  have HKR := hide hin.keys
  have HONE := hide (And.intro hu.1.one hu.2.one_)
  have HNOB := hide (And.intro hu.1.noB hu.2.noB)
  have HRIG := hide (normK_right hin)
  have HSML := hide (normK_small hin)
  have HBLB := hide (normK_blobs hin)
  have HSM := hide (smallQ hin)
  have HIT := hide (show InT (cutR r).tests from fun t ht => hin.tests t (List.mem_of_mem_take ht))
  obtain ⟨qc, HQC⟩ : ∃ x, Hid (cutR r = x) := ⟨_, hide rfl⟩
  have HEQ := hide (fun (vt vb : Value) => show reqCells r vt vb = reqCells qc vt vb by rw [← HQC.out]; rfl)
  have HKU := hide (fun (vt' vb' : Value) => rq_keep (q := r) (q' := qc) (vt := ut) (vb := ub) (vt' := vt') (vb' := vb') HKR.out (by rw [← HQC.out]; exact ⟨HKR.out.i, HKR.out.s, HKR.out.e⟩) (by rw [← HQC.out]; rfl) (by rw [← HQC.out]; rfl) (by rw [← HQC.out]; rfl) HNOB.out.1.2 HNOB.out.2.2)
  rw [HQC.out] at HRIG HSML HBLB HSM HIT
  have HKC := hide HSM.out.keys
  obtain ⟨g2, HG⟩ : ∃ k, Hid (w.heap.size = k) := ⟨_, hide rfl⟩
  have hwg : w.heap.size ≤ g2 ∧ g2 ≤ w.heap.size := by have := HG.out; omega
  clear ht hin hu her
  go_enter Tryd.func7, Tryd.ntmps7
  go_wp2_with (first
    | (refine wpList_rq_box _ rfl rfl rfl HKR.out HONE.out.1 HONE.out.2 ?_; intro w1 hb1 hw1 hs1; rw [HG.out] at hb1; try rw [HG.out]; have H2 := hide hb1; have HB := hide hw1; clear hb1 hw1)
    | (refine wpList_rq_all _ rfl rfl rfl H2.out ?_))
  refine (request_any r ut ub r.tests r.blobs w1 HKR.out ((HUT.out.below HB.out (Nat.le_refl _)).more HB.out.size) ((HUB.out.below HB.out (Nat.le_refl _)).more HB.out.size)).mono ?_
  rintro e w2 ⟨vt, vb, rfl, htt, hob, hb2⟩
  have HOB := hide (show OwnBlbs w2 w1.heap.size vb qc.blobs by rw [← HQC.out]; exact hob)
  have HTS := hide (show TstsB w2 w1.heap.size vt qc.tests by rw [← HQC.out]; exact htt)
  have HTO := hide htt.one
  have HBO := hide hob.one
  have HNO := hide (And.intro htt.noB (OwnBlbs.reads hob hb2.size).noB)
  have hz1 := HB.out.size
  have hz2 := hb2.size
  have hg2 : g2 < w1.heap.size := H2.out.lt
  replace H2 := hide (H2.out.below hb2 H2.out.lt)
  replace HB := hide (HB.out.trans (hb2.mono HB.out.size))
  rw [HEQ.out vt vb]
  clear htt hob hb2
  go_upto_region 2 with (first
    | (refine wpList_rq_putAll _ _ rfl rfl rfl H2.out qc vt vb rfl HKC.out HTO.out HBO.out ?_; intro w3 hb3 hg3 hs3; replace HOB := hide (HOB.out.keepU8 hz2 hg3 H2.out.blk hb3.blk (HKU.out _ _) (by decide) (by decide)); replace HTS := hide (HTS.out.past hz2 hg3 H2.out.blk (rq_nobool HNOB.out.1.1 HNOB.out.2.1)); have HQ := hide hb3; replace HB := hide (HB.out.grown hg3 (by omega) (by intro k hk; injection hk; omega)); clear hb3 hg3))
  simp only [Act.put]
  have HBS := hide (show BlbSt w3 vb qc.blobs from ⟨_, HOB.out, by omega⟩)
  replace HTS := hide (HTS.out.more (show w1.heap.size ≤ w3.heap.size by omega))
  have HIK := hide (show -9223372036854775808 ≤ qc.kind ∧ qc.kind ≤ 9223372036854775807 from HSM.out.kind)
  have HIE := hide (show -9223372036854775808 ≤ qc.ends ∧ qc.ends ≤ 9223372036854775807 from HSM.out.ends)
  have hwk := within_range qc.kind 6 (by omega)
  have hwe := within_range qc.ends 1048577 (by omega)
  obtain ⟨qn, HQN⟩ : ∃ q, Hid (normK qc = q) := ⟨_, hide rfl⟩
  have HKN := hide (show KeysR qn from by rw [← HQN.out]; exact ⟨HKC.out.i, HKC.out.s, HKC.out.e⟩)
  have HCN := hide (fun (vt vb : Value) => show reqCells { qc with kind := 1 + within qc.kind 6, ends := within qc.ends 1048577 } vt vb = reqCells qn vt vb by rw [← HQN.out]; rfl)
  clear HOB H2 HUT HUB HKR HONE HNOB HEQ HKU
  go_cut [] from 26 to 34 (fun wx => ReqB wx g2 qn vt vb ∧ w3.grownBy wx (some g2))
  case first =>
    refine wp_region_held_drew (S := fun w' => w3.grownBy w' (some g2)) (by kernel_rfl) (World.grownBy.drew2 _ _) (fun hHeld => ?_)
    replace HQ := hide HQ.out.drew
    refine take_d 26 (i := 0) (v := .pointer (some ⟨g2, 0, none⟩)) rfl (by kernel_rfl) (by kernel_rfl) (by kernel_rfl) (by kernel_rfl) (fun _ _ _ h => h) (Or.inl ⟨by kernel_rfl, fun w' hS => exec_fieldG _ _ 0 0 rfl g2 0 rfl (by kernel_rfl) _ (by first | rfl | omega)⟩) hHeld ?_
    try simp only [Act.put, List.setIfInBounds_toArray, List.set_cons_zero, List.set_cons_succ]
    refine take_d 30 (i := 4) (v := .pointer (some ⟨g2, 33, none⟩)) rfl (by kernel_rfl) (by kernel_rfl) (by kernel_rfl) (by kernel_rfl) (fun _ _ _ h => h) (Or.inl ⟨by kernel_rfl, fun w' hS => exec_fieldG _ _ 3 33 rfl g2 0 rfl (by kernel_rfl) _ (by first | rfl | omega)⟩) hHeld ?_
    try simp only [Act.put, List.setIfInBounds_toArray, List.set_cons_zero, List.set_cons_succ]
    refine wpAnyH_ready (rs := [1, 5]) (by kernel_rfl) (by simp) (AllReadyH.cons rfl (fun K hK => ?q1_1) (AllReadyH.cons rfl (fun K hK => ?q2_5) AllReadyH.nil))
    case q1_1 =>
      rw [if_pos (by kernel_rfl)]
      refine wp_valueD 27 rfl (.int .i64 qc.kind) (exec_load_one _ _ rfl g2 0 rfl _ Tryd.underlying3 rfl _ HQ.out.cellK) ?_
      refine hK.out _ _ hHeld (fun hHeld => ?_)
      clear hK K
      try simp only [Act.put, List.setIfInBounds_toArray, List.set_cons_zero, List.set_cons_succ]
      refine wpAnyH_ready (rs := [2, 5]) (by kernel_rfl) (by simp) (AllReadyH.cons rfl (fun K hK => ?q3_2) (AllReadyH.cons rfl (fun K hK => ?q4_5) AllReadyH.nil))
      case q3_2 =>
        rw [if_pos (by kernel_rfl)]
        try go_simp
        refine (within_any qc.kind 6 _ HIK.out.1 HIK.out.2 (by omega)).mono ?_
        rintro e w34 ⟨rfl, rfl⟩
        refine hK.out _ _ hHeld (fun hHeld => ?_)
        clear hK K
        try simp only [Act.put, List.setIfInBounds_toArray, List.set_cons_zero, List.set_cons_succ]
        refine take_d 29 (i := 3) (v := .int .i64 (1 + within qc.kind 6)) rfl (by kernel_rfl) (by kernel_rfl) (by kernel_rfl) (by kernel_rfl) (fun _ _ _ h => h) (Or.inl ⟨by kernel_rfl, fun w' hS => exec_addG _ _ _ rfl _ _ _ rfl rfl (by omega) (by omega)⟩) hHeld ?_
        try simp only [Act.put, List.setIfInBounds_toArray, List.set_cons_zero, List.set_cons_succ]
        refine wpAnyH_ready (rs := [5]) (by kernel_rfl) (by simp) (AllReadyH.cons rfl (fun K hK => ?_) AllReadyH.nil)
        rw [if_pos (by kernel_rfl)]
        refine wp_valueD 31 rfl (.int .i64 qc.ends) (exec_load_one _ _ rfl g2 33 rfl _ Tryd.underlying3 rfl _ HQ.out.cellE) ?_
        refine hK.out _ _ hHeld (fun hHeld => ?_)
        clear hK K
        try simp only [Act.put, List.setIfInBounds_toArray, List.set_cons_zero, List.set_cons_succ]
        refine take_d 33 (i := 7) (v := .pointer (some ⟨g2, 0, none⟩)) rfl (by kernel_rfl) (by kernel_rfl) (by kernel_rfl) (by kernel_rfl) (fun _ _ _ h => h) (Or.inl ⟨by kernel_rfl, fun w' hS => exec_fieldG _ _ 0 0 rfl g2 0 rfl (by kernel_rfl) _ (by first | rfl | omega)⟩) hHeld ?_
        try simp only [Act.put, List.setIfInBounds_toArray, List.set_cons_zero, List.set_cons_succ]
        refine wpAnyH_ready (rs := [6]) (by kernel_rfl) (by simp) (AllReadyH.cons rfl (fun K hK => ?_) AllReadyH.nil)
        rw [if_pos (by kernel_rfl)]
        try go_simp
        refine (within_any qc.ends 1048577 _ HIE.out.1 HIE.out.2 (by omega)).mono ?_
        rintro e w40 ⟨rfl, rfl⟩
        refine hK.out _ _ hHeld (fun hHeld => ?_)
        clear hK K
        try simp only [Act.put, List.setIfInBounds_toArray, List.set_cons_zero, List.set_cons_succ]
        refine wpAnyH_ready (rs := [8]) (by kernel_rfl) (by simp) (AllReadyH.cons rfl (fun K hK => ?_) AllReadyH.nil)
        rw [if_pos (by kernel_rfl)]
        refine wp_rq_put1D 3 _ _ rfl rfl 0 rfl HQ.out (.int .i64 (1 + within qc.kind 6)) rfl rfl (by kernel_rfl) (by omega) { qc with kind := 1 + within qc.kind 6 } vt vb (rq_setK _) ⟨HQ.out.keys.i, HQ.out.keys.s, HQ.out.keys.e⟩ HQ.out.oneT HQ.out.oneB ?_
        intro ws8 hs8 hg8
        replace HQ := hide hs8
        have HX := hide (World.grownBy.trans_ hHeld hg8)
        clear hs8 hg8
        refine hK.out _ _ HX.out (fun hHeld => ?_)
        clear HX hK K
        try simp only [Act.put, List.setIfInBounds_toArray, List.set_cons_zero, List.set_cons_succ]
        refine take_d 34 (i := 9) (v := .pointer (some ⟨g2, 33, none⟩)) rfl (by kernel_rfl) (by kernel_rfl) (by kernel_rfl) (by kernel_rfl) (fun _ _ _ h => h) (Or.inl ⟨by kernel_rfl, fun w' hS => exec_fieldG _ _ 3 33 rfl g2 0 rfl (by kernel_rfl) _ (by first | rfl | omega)⟩) hHeld ?_
        try simp only [Act.put, List.setIfInBounds_toArray, List.set_cons_zero, List.set_cons_succ]
        refine wpAnyH_ready (rs := [10]) (by kernel_rfl) (by simp) (AllReadyH.cons rfl (fun K hK => ?_) AllReadyH.nil)
        rw [if_pos (by kernel_rfl)]
        refine wp_rq_put1D 3 _ _ rfl rfl 33 rfl HQ.out (.int .i64 (within qc.ends 1048577)) rfl rfl (by kernel_rfl) (by omega) { qc with kind := 1 + within qc.kind 6, ends := within qc.ends 1048577 } vt vb (rq_setE HQ.out.keys _) ⟨HQ.out.keys.i, HQ.out.keys.s, HQ.out.keys.e⟩ HQ.out.oneT HQ.out.oneB ?_
        intro ws10 hs10 hg10
        replace HQ := hide hs10
        have HX := hide (World.grownBy.trans_ hHeld hg10)
        clear hs10 hg10
        refine hK.out _ _ HX.out (fun hHeld => ?_)
        clear HX hK K
        try simp only [Act.put, List.setIfInBounds_toArray, List.set_cons_zero, List.set_cons_succ]
        refine wpAnyH_done (by kernel_rfl) ?_ _
        go_wp2_with fail
        go_meet
        exact ⟨⟨by have := HQ.out.blk; rw [HCN.out] at this; exact this, HKN.out, HQ.out.oneT, HQ.out.oneB⟩, hHeld⟩
      case q4_5 =>
        rw [if_pos (by kernel_rfl)]
        refine wp_valueD 31 rfl (.int .i64 qc.ends) (exec_load_one _ _ rfl g2 33 rfl _ Tryd.underlying3 rfl _ HQ.out.cellE) ?_
        refine hK.out _ _ hHeld (fun hHeld => ?_)
        clear hK K
        try simp only [Act.put, List.setIfInBounds_toArray, List.set_cons_zero, List.set_cons_succ]
        refine wpAnyH_ready (rs := [2]) (by kernel_rfl) (by simp) (AllReadyH.cons rfl (fun K hK => ?_) AllReadyH.nil)
        rw [if_pos (by kernel_rfl)]
        try go_simp
        refine (within_any qc.kind 6 _ HIK.out.1 HIK.out.2 (by omega)).mono ?_
        rintro e w34 ⟨rfl, rfl⟩
        refine hK.out _ _ hHeld (fun hHeld => ?_)
        clear hK K
        try simp only [Act.put, List.setIfInBounds_toArray, List.set_cons_zero, List.set_cons_succ]
        refine take_d 29 (i := 3) (v := .int .i64 (1 + within qc.kind 6)) rfl (by kernel_rfl) (by kernel_rfl) (by kernel_rfl) (by kernel_rfl) (fun _ _ _ h => h) (Or.inl ⟨by kernel_rfl, fun w' hS => exec_addG _ _ _ rfl _ _ _ rfl rfl (by omega) (by omega)⟩) hHeld ?_
        try simp only [Act.put, List.setIfInBounds_toArray, List.set_cons_zero, List.set_cons_succ]
        refine take_d 33 (i := 7) (v := .pointer (some ⟨g2, 0, none⟩)) rfl (by kernel_rfl) (by kernel_rfl) (by kernel_rfl) (by kernel_rfl) (fun _ _ _ h => h) (Or.inl ⟨by kernel_rfl, fun w' hS => exec_fieldG _ _ 0 0 rfl g2 0 rfl (by kernel_rfl) _ (by first | rfl | omega)⟩) hHeld ?_
        try simp only [Act.put, List.setIfInBounds_toArray, List.set_cons_zero, List.set_cons_succ]
        refine wpAnyH_ready (rs := [6]) (by kernel_rfl) (by simp) (AllReadyH.cons rfl (fun K hK => ?_) AllReadyH.nil)
        rw [if_pos (by kernel_rfl)]
        try go_simp
        refine (within_any qc.ends 1048577 _ HIE.out.1 HIE.out.2 (by omega)).mono ?_
        rintro e w40 ⟨rfl, rfl⟩
        refine hK.out _ _ hHeld (fun hHeld => ?_)
        clear hK K
        try simp only [Act.put, List.setIfInBounds_toArray, List.set_cons_zero, List.set_cons_succ]
        refine wpAnyH_ready (rs := [8]) (by kernel_rfl) (by simp) (AllReadyH.cons rfl (fun K hK => ?_) AllReadyH.nil)
        rw [if_pos (by kernel_rfl)]
        refine wp_rq_put1D 3 _ _ rfl rfl 0 rfl HQ.out (.int .i64 (1 + within qc.kind 6)) rfl rfl (by kernel_rfl) (by omega) { qc with kind := 1 + within qc.kind 6 } vt vb (rq_setK _) ⟨HQ.out.keys.i, HQ.out.keys.s, HQ.out.keys.e⟩ HQ.out.oneT HQ.out.oneB ?_
        intro ws8 hs8 hg8
        replace HQ := hide hs8
        have HX := hide (World.grownBy.trans_ hHeld hg8)
        clear hs8 hg8
        refine hK.out _ _ HX.out (fun hHeld => ?_)
        clear HX hK K
        try simp only [Act.put, List.setIfInBounds_toArray, List.set_cons_zero, List.set_cons_succ]
        refine take_d 34 (i := 9) (v := .pointer (some ⟨g2, 33, none⟩)) rfl (by kernel_rfl) (by kernel_rfl) (by kernel_rfl) (by kernel_rfl) (fun _ _ _ h => h) (Or.inl ⟨by kernel_rfl, fun w' hS => exec_fieldG _ _ 3 33 rfl g2 0 rfl (by kernel_rfl) _ (by first | rfl | omega)⟩) hHeld ?_
        try simp only [Act.put, List.setIfInBounds_toArray, List.set_cons_zero, List.set_cons_succ]
        refine wpAnyH_ready (rs := [10]) (by kernel_rfl) (by simp) (AllReadyH.cons rfl (fun K hK => ?_) AllReadyH.nil)
        rw [if_pos (by kernel_rfl)]
        refine wp_rq_put1D 3 _ _ rfl rfl 33 rfl HQ.out (.int .i64 (within qc.ends 1048577)) rfl rfl (by kernel_rfl) (by omega) { qc with kind := 1 + within qc.kind 6, ends := within qc.ends 1048577 } vt vb (rq_setE HQ.out.keys _) ⟨HQ.out.keys.i, HQ.out.keys.s, HQ.out.keys.e⟩ HQ.out.oneT HQ.out.oneB ?_
        intro ws10 hs10 hg10
        replace HQ := hide hs10
        have HX := hide (World.grownBy.trans_ hHeld hg10)
        clear hs10 hg10
        refine hK.out _ _ HX.out (fun hHeld => ?_)
        clear HX hK K
        try simp only [Act.put, List.setIfInBounds_toArray, List.set_cons_zero, List.set_cons_succ]
        refine wpAnyH_done (by kernel_rfl) ?_ _
        go_wp2_with fail
        go_meet
        exact ⟨⟨by have := HQ.out.blk; rw [HCN.out] at this; exact this, HKN.out, HQ.out.oneT, HQ.out.oneB⟩, hHeld⟩
    case q2_5 =>
      rw [if_pos (by kernel_rfl)]
      refine wp_valueD 31 rfl (.int .i64 qc.ends) (exec_load_one _ _ rfl g2 33 rfl _ Tryd.underlying3 rfl _ HQ.out.cellE) ?_
      refine hK.out _ _ hHeld (fun hHeld => ?_)
      clear hK K
      try simp only [Act.put, List.setIfInBounds_toArray, List.set_cons_zero, List.set_cons_succ]
      refine wpAnyH_ready (rs := [1]) (by kernel_rfl) (by simp) (AllReadyH.cons rfl (fun K hK => ?_) AllReadyH.nil)
      rw [if_pos (by kernel_rfl)]
      refine wp_valueD 27 rfl (.int .i64 qc.kind) (exec_load_one _ _ rfl g2 0 rfl _ Tryd.underlying3 rfl _ HQ.out.cellK) ?_
      refine hK.out _ _ hHeld (fun hHeld => ?_)
      clear hK K
      try simp only [Act.put, List.setIfInBounds_toArray, List.set_cons_zero, List.set_cons_succ]
      refine wpAnyH_ready (rs := [2]) (by kernel_rfl) (by simp) (AllReadyH.cons rfl (fun K hK => ?_) AllReadyH.nil)
      rw [if_pos (by kernel_rfl)]
      try go_simp
      refine (within_any qc.kind 6 _ HIK.out.1 HIK.out.2 (by omega)).mono ?_
      rintro e w34 ⟨rfl, rfl⟩
      refine hK.out _ _ hHeld (fun hHeld => ?_)
      clear hK K
      try simp only [Act.put, List.setIfInBounds_toArray, List.set_cons_zero, List.set_cons_succ]
      refine take_d 29 (i := 3) (v := .int .i64 (1 + within qc.kind 6)) rfl (by kernel_rfl) (by kernel_rfl) (by kernel_rfl) (by kernel_rfl) (fun _ _ _ h => h) (Or.inl ⟨by kernel_rfl, fun w' hS => exec_addG _ _ _ rfl _ _ _ rfl rfl (by omega) (by omega)⟩) hHeld ?_
      try simp only [Act.put, List.setIfInBounds_toArray, List.set_cons_zero, List.set_cons_succ]
      refine take_d 33 (i := 7) (v := .pointer (some ⟨g2, 0, none⟩)) rfl (by kernel_rfl) (by kernel_rfl) (by kernel_rfl) (by kernel_rfl) (fun _ _ _ h => h) (Or.inl ⟨by kernel_rfl, fun w' hS => exec_fieldG _ _ 0 0 rfl g2 0 rfl (by kernel_rfl) _ (by first | rfl | omega)⟩) hHeld ?_
      try simp only [Act.put, List.setIfInBounds_toArray, List.set_cons_zero, List.set_cons_succ]
      refine wpAnyH_ready (rs := [6]) (by kernel_rfl) (by simp) (AllReadyH.cons rfl (fun K hK => ?_) AllReadyH.nil)
      rw [if_pos (by kernel_rfl)]
      try go_simp
      refine (within_any qc.ends 1048577 _ HIE.out.1 HIE.out.2 (by omega)).mono ?_
      rintro e w40 ⟨rfl, rfl⟩
      refine hK.out _ _ hHeld (fun hHeld => ?_)
      clear hK K
      try simp only [Act.put, List.setIfInBounds_toArray, List.set_cons_zero, List.set_cons_succ]
      refine wpAnyH_ready (rs := [8]) (by kernel_rfl) (by simp) (AllReadyH.cons rfl (fun K hK => ?_) AllReadyH.nil)
      rw [if_pos (by kernel_rfl)]
      refine wp_rq_put1D 3 _ _ rfl rfl 0 rfl HQ.out (.int .i64 (1 + within qc.kind 6)) rfl rfl (by kernel_rfl) (by omega) { qc with kind := 1 + within qc.kind 6 } vt vb (rq_setK _) ⟨HQ.out.keys.i, HQ.out.keys.s, HQ.out.keys.e⟩ HQ.out.oneT HQ.out.oneB ?_
      intro ws8 hs8 hg8
      replace HQ := hide hs8
      have HX := hide (World.grownBy.trans_ hHeld hg8)
      clear hs8 hg8
      refine hK.out _ _ HX.out (fun hHeld => ?_)
      clear HX hK K
      try simp only [Act.put, List.setIfInBounds_toArray, List.set_cons_zero, List.set_cons_succ]
      refine take_d 34 (i := 9) (v := .pointer (some ⟨g2, 33, none⟩)) rfl (by kernel_rfl) (by kernel_rfl) (by kernel_rfl) (by kernel_rfl) (fun _ _ _ h => h) (Or.inl ⟨by kernel_rfl, fun w' hS => exec_fieldG _ _ 3 33 rfl g2 0 rfl (by kernel_rfl) _ (by first | rfl | omega)⟩) hHeld ?_
      try simp only [Act.put, List.setIfInBounds_toArray, List.set_cons_zero, List.set_cons_succ]
      refine wpAnyH_ready (rs := [10]) (by kernel_rfl) (by simp) (AllReadyH.cons rfl (fun K hK => ?_) AllReadyH.nil)
      rw [if_pos (by kernel_rfl)]
      refine wp_rq_put1D 3 _ _ rfl rfl 33 rfl HQ.out (.int .i64 (within qc.ends 1048577)) rfl rfl (by kernel_rfl) (by omega) { qc with kind := 1 + within qc.kind 6, ends := within qc.ends 1048577 } vt vb (rq_setE HQ.out.keys _) ⟨HQ.out.keys.i, HQ.out.keys.s, HQ.out.keys.e⟩ HQ.out.oneT HQ.out.oneB ?_
      intro ws10 hs10 hg10
      replace HQ := hide hs10
      have HX := hide (World.grownBy.trans_ hHeld hg10)
      clear hs10 hg10
      refine hK.out _ _ HX.out (fun hHeld => ?_)
      clear HX hK K
      try simp only [Act.put, List.setIfInBounds_toArray, List.set_cons_zero, List.set_cons_succ]
      refine wpAnyH_done (by kernel_rfl) ?_ _
      go_wp2_with fail
      go_meet
      exact ⟨⟨by have := HQ.out.blk; rw [HCN.out] at this; exact this, HKN.out, HQ.out.oneT, HQ.out.oneB⟩, hHeld⟩
  obtain ⟨hq4, hg4⟩ := hcut
  replace HBS := hide (HBS.out.keep hg4 HQ.out hq4 (by rw [← HQN.out]; rfl) (by rw [← HQN.out]; rfl) (by rw [← HQN.out]; rfl) HNO.out.1.2 HNO.out.2.2)
  replace HTS := hide ((HTS.out.past (Nat.le_refl _) hg4 HQ.out.blk (rq_nobool HNO.out.1.1 HNO.out.2.1)).more hg4.size)
  have hz3 := HB.out.size
  replace HB := hide (HB.out.grown hg4 hz3 (by intro k hk; injection hk; omega))
  replace HQ := hide hq4
  obtain ⟨lt, HLT⟩ : ∃ l, Hid (qc.tests.take (10 : Int).toNat = l) := ⟨_, hide rfl⟩
  obtain ⟨lb, HLB⟩ : ∃ l, Hid (qc.blobs.take (10 : Int).toNat = l) := ⟨_, hide rfl⟩
  have HLN := hide (show lt.length ≤ 10 ∧ lb.length ≤ 10 by rw [← HLT.out, ← HLB.out, List.length_take, List.length_take]; exact ⟨Nat.min_le_left _ _, Nat.min_le_left _ _⟩)
  have HLX := hide (show ∀ x ∈ lb, Bytes x.2 ∧ In64 x.1 ∧ x.2.length ≤ 100 from fun x hx => by rw [← HLB.out] at hx; exact HSM.out.blobs x (List.mem_of_mem_take hx))
  have HLI := hide (show InT lt from fun t ht => by rw [← HLT.out] at ht; exact HIT.out t (List.mem_of_mem_take ht))
  have HNT := hide (show qn.tests = lt.map normT by rw [← HQN.out, ← HLT.out]; rfl)
  have HNB := hide (show qn.blobs = lb.map fun x => (within x.1 16, x.2) by rw [← HQN.out, ← HLB.out]; rfl)
  clear hq4 hg4 HCN HIK HIE hwk hwe
  go_upto_region 3 with fail
  go_cut [] from 35 to 44 (fun wx => ∃ vT vB, ReqB wx g2 qn vT vB ∧ OwnTsts wx w.heap.size vT lt ∧ OwnBlbsR wx w.heap.size vB lb ∧ Below w.heap.size w wx)
  case first =>
    refine wp_region_held_drew (S := fun w' => Below w.heap.size w w') (by kernel_rfl) HB.out.drew (fun hHeld => ?_)
    replace HQ := hide HQ.out.drew
    replace HTS := hide (HTS.out.below (Below.refl _ _).drew (Nat.le_refl _))
    replace HBS := hide (HBS.out.kept (Below.refl _ _).drew)
    refine take_d 35 (i := 0) (v := .pointer (some ⟨g2, 50, none⟩)) rfl (by kernel_rfl) (by kernel_rfl) (by kernel_rfl) (by kernel_rfl) (fun _ _ _ h => h) (Or.inl ⟨by kernel_rfl, fun w' hS => exec_fieldG _ _ 5 50 rfl g2 0 rfl (by kernel_rfl) _ (by first | rfl | omega)⟩) hHeld ?_
    try simp only [Act.put, List.setIfInBounds_toArray, List.set_cons_zero, List.set_cons_succ]
    refine take_d 39 (i := 4) (v := .pointer (some ⟨g2, 51, none⟩)) rfl (by kernel_rfl) (by kernel_rfl) (by kernel_rfl) (by kernel_rfl) (fun _ _ _ h => h) (Or.inl ⟨by kernel_rfl, fun w' hS => exec_fieldG _ _ 6 51 rfl g2 0 rfl (by kernel_rfl) _ (by first | rfl | omega)⟩) hHeld ?_
    try simp only [Act.put, List.setIfInBounds_toArray, List.set_cons_zero, List.set_cons_succ]
    refine wpAnyH_ready (rs := [1, 5]) (by kernel_rfl) (by simp) (AllReadyH.cons rfl (fun K hK => ?q1_1) (AllReadyH.cons rfl (fun K hK => ?q2_5) AllReadyH.nil))
    case q1_1 =>
      rw [if_pos (by kernel_rfl)]
      refine wp_valueD 36 rfl vt (exec_load_one _ _ rfl g2 50 rfl _ Tryd.underlying29 rfl _ HQ.out.cellT) ?_
      refine hK.out _ _ hHeld (fun hHeld => ?_)
      clear hK K
      try simp only [Act.put, List.setIfInBounds_toArray, List.set_cons_zero, List.set_cons_succ]
      refine wpAnyH_ready (rs := [2, 5]) (by kernel_rfl) (by simp) (AllReadyH.cons rfl (fun K hK => ?q3_2) (AllReadyH.cons rfl (fun K hK => ?q4_5) AllReadyH.nil))
      case q3_2 =>
        rw [if_pos (by kernel_rfl)]
        try go_simp
        refine (cut_tests vt qc.tests 10 _ _ HTS.out (by omega) (by omega)).mono ?_
        rintro e w37 ⟨v37, rfl, hv37, rfl⟩
        have HV37 := hide hv37
        clear hv37
        refine hK.out _ _ hHeld (fun hHeld => ?_)
        clear hK K
        try simp only [Act.put, List.setIfInBounds_toArray, List.set_cons_zero, List.set_cons_succ]
        refine wpAnyH_ready (rs := [3, 5]) (by kernel_rfl) (by simp) (AllReadyH.cons rfl (fun K hK => ?q5_3) (AllReadyH.cons rfl (fun K hK => ?q6_5) AllReadyH.nil))
        case q5_3 =>
          rw [if_pos (by kernel_rfl)]
          try go_simp
          refine (copy_tests v37 lt _ _ (by rw [← HLT.out]; exact HV37.out) (by have := HLN.out.1; omega)).mono ?_
          rintro e w38 ⟨v38, rfl, ho38, hb38⟩
          clear HV37
          replace HQ := hide (HQ.out.below hb38 HQ.out.lt)
          replace HTS := hide ((HTS.out.below hb38 (Nat.le_refl _)).more hb38.size)
          replace HBS := hide (HBS.out.kept hb38)
          try replace HOT := hide (HOT.out.keptB hb38)
          try replace HOB := hide (HOB.out.keptB hb38)
          have HX := hide (hHeld.trans (hb38.mono hHeld.size))
          have HOT := hide (ho38.lower hHeld.size)
          clear ho38 hb38
          refine hK.out _ _ HX.out (fun hHeld => ?_)
          clear HX hK K
          try simp only [Act.put, List.setIfInBounds_toArray, List.set_cons_zero, List.set_cons_succ]
          refine wpAnyH_ready (rs := [5]) (by kernel_rfl) (by simp) (AllReadyH.cons rfl (fun K hK => ?_) AllReadyH.nil)
          rw [if_pos (by kernel_rfl)]
          refine wp_valueD 40 rfl vb (exec_load_one _ _ rfl g2 51 rfl _ Tryd.underlying23 rfl _ HQ.out.cellB) ?_
          refine hK.out _ _ hHeld (fun hHeld => ?_)
          clear hK K
          try simp only [Act.put, List.setIfInBounds_toArray, List.set_cons_zero, List.set_cons_succ]
          refine take_d 43 (i := 8) (v := .pointer (some ⟨g2, 50, none⟩)) rfl (by kernel_rfl) (by kernel_rfl) (by kernel_rfl) (by kernel_rfl) (fun _ _ _ h => h) (Or.inl ⟨by kernel_rfl, fun w' hS => exec_fieldG _ _ 5 50 rfl g2 0 rfl (by kernel_rfl) _ (by first | rfl | omega)⟩) hHeld ?_
          try simp only [Act.put, List.setIfInBounds_toArray, List.set_cons_zero, List.set_cons_succ]
          refine wpAnyH_ready (rs := [6]) (by kernel_rfl) (by simp) (AllReadyH.cons rfl (fun K hK => ?_) AllReadyH.nil)
          rw [if_pos (by kernel_rfl)]
          try go_simp
          refine (cut_blobs vb qc.blobs 10 _ _ HBS.out.reads (by omega) (by omega)).mono ?_
          rintro e w41 ⟨v41, rfl, hv41, rfl⟩
          have HV41 := hide hv41
          clear hv41
          refine hK.out _ _ hHeld (fun hHeld => ?_)
          clear hK K
          try simp only [Act.put, List.setIfInBounds_toArray, List.set_cons_zero, List.set_cons_succ]
          refine wpAnyH_ready (rs := [7]) (by kernel_rfl) (by simp) (AllReadyH.cons rfl (fun K hK => ?_) AllReadyH.nil)
          rw [if_pos (by kernel_rfl)]
          try go_simp
          refine (copy_blobs v41 lb _ (by rw [← HLB.out]; exact HV41.out) (fun x hx => by have := HLX.out x hx; exact ⟨this.1, by omega⟩) (by have := HLN.out.2; omega)).mono ?_
          rintro e w42 ⟨v42, rfl, ho42, hb42⟩
          clear HV41
          replace HQ := hide (HQ.out.below hb42 HQ.out.lt)
          replace HTS := hide ((HTS.out.below hb42 (Nat.le_refl _)).more hb42.size)
          replace HBS := hide (HBS.out.kept hb42)
          try replace HOT := hide (HOT.out.keptB hb42)
          try replace HOB := hide (HOB.out.keptB hb42)
          have HX := hide (hHeld.trans (hb42.mono hHeld.size))
          have HOB := hide (ho42.lower hHeld.size)
          clear ho42 hb42
          refine hK.out _ _ HX.out (fun hHeld => ?_)
          clear HX hK K
          try simp only [Act.put, List.setIfInBounds_toArray, List.set_cons_zero, List.set_cons_succ]
          refine wpAnyH_ready (rs := [9]) (by kernel_rfl) (by simp) (AllReadyH.cons rfl (fun K hK => ?_) AllReadyH.nil)
          rw [if_pos (by kernel_rfl)]
          clear HTS HBS
          refine wp_rq_put1D 29 _ _ rfl rfl 50 rfl HQ.out v38 rfl HOT.out.one (by kernel_rfl) (by omega) qn v38 vb (rq_setT HQ.out.keys _) HQ.out.keys HOT.out.one HQ.out.oneB ?_
          intro ws9 hs9 hg9
          replace HOT := hide (HOT.out.past HQ.out.blk (by decide) hg9)
          replace HOB := hide (HOB.out.past HQ.out.blk (by decide) (by decide) hg9)
          replace HQ := hide hs9
          have HX := hide (hHeld.grown hg9 hHeld.size (by intro k hk; injection hk; omega))
          clear hs9 hg9
          refine hK.out _ _ HX.out (fun hHeld => ?_)
          clear HX hK K
          try simp only [Act.put, List.setIfInBounds_toArray, List.set_cons_zero, List.set_cons_succ]
          refine take_d 44 (i := 10) (v := .pointer (some ⟨g2, 51, none⟩)) rfl (by kernel_rfl) (by kernel_rfl) (by kernel_rfl) (by kernel_rfl) (fun _ _ _ h => h) (Or.inl ⟨by kernel_rfl, fun w' hS => exec_fieldG _ _ 6 51 rfl g2 0 rfl (by kernel_rfl) _ (by first | rfl | omega)⟩) hHeld ?_
          try simp only [Act.put, List.setIfInBounds_toArray, List.set_cons_zero, List.set_cons_succ]
          refine wpAnyH_ready (rs := [11]) (by kernel_rfl) (by simp) (AllReadyH.cons rfl (fun K hK => ?_) AllReadyH.nil)
          rw [if_pos (by kernel_rfl)]
          refine wp_rq_put1D 23 _ _ rfl rfl 51 rfl HQ.out v42 rfl HOB.out.one (by kernel_rfl) (by omega) qn v38 v42 (rq_setB HQ.out.keys _) HQ.out.keys HOT.out.one HOB.out.one ?_
          intro ws11 hs11 hg11
          replace HOT := hide (HOT.out.past HQ.out.blk (by decide) hg11)
          replace HOB := hide (HOB.out.past HQ.out.blk (by decide) (by decide) hg11)
          replace HQ := hide hs11
          have HX := hide (hHeld.grown hg11 hHeld.size (by intro k hk; injection hk; omega))
          clear hs11 hg11
          refine hK.out _ _ HX.out (fun hHeld => ?_)
          clear HX hK K
          try simp only [Act.put, List.setIfInBounds_toArray, List.set_cons_zero, List.set_cons_succ]
          refine wpAnyH_done (by kernel_rfl) ?_ _
          go_wp2_with fail
          go_meet
          exact ⟨v38, v42, HQ.out, HOT.out, HOB.out, hHeld⟩
        case q6_5 =>
          rw [if_pos (by kernel_rfl)]
          refine wp_valueD 40 rfl vb (exec_load_one _ _ rfl g2 51 rfl _ Tryd.underlying23 rfl _ HQ.out.cellB) ?_
          refine hK.out _ _ hHeld (fun hHeld => ?_)
          clear hK K
          try simp only [Act.put, List.setIfInBounds_toArray, List.set_cons_zero, List.set_cons_succ]
          refine wpAnyH_ready (rs := [3]) (by kernel_rfl) (by simp) (AllReadyH.cons rfl (fun K hK => ?_) AllReadyH.nil)
          rw [if_pos (by kernel_rfl)]
          try go_simp
          refine (copy_tests v37 lt _ _ (by rw [← HLT.out]; exact HV37.out) (by have := HLN.out.1; omega)).mono ?_
          rintro e w38 ⟨v38, rfl, ho38, hb38⟩
          clear HV37
          replace HQ := hide (HQ.out.below hb38 HQ.out.lt)
          replace HTS := hide ((HTS.out.below hb38 (Nat.le_refl _)).more hb38.size)
          replace HBS := hide (HBS.out.kept hb38)
          try replace HOT := hide (HOT.out.keptB hb38)
          try replace HOB := hide (HOB.out.keptB hb38)
          have HX := hide (hHeld.trans (hb38.mono hHeld.size))
          have HOT := hide (ho38.lower hHeld.size)
          clear ho38 hb38
          refine hK.out _ _ HX.out (fun hHeld => ?_)
          clear HX hK K
          try simp only [Act.put, List.setIfInBounds_toArray, List.set_cons_zero, List.set_cons_succ]
          refine take_d 43 (i := 8) (v := .pointer (some ⟨g2, 50, none⟩)) rfl (by kernel_rfl) (by kernel_rfl) (by kernel_rfl) (by kernel_rfl) (fun _ _ _ h => h) (Or.inl ⟨by kernel_rfl, fun w' hS => exec_fieldG _ _ 5 50 rfl g2 0 rfl (by kernel_rfl) _ (by first | rfl | omega)⟩) hHeld ?_
          try simp only [Act.put, List.setIfInBounds_toArray, List.set_cons_zero, List.set_cons_succ]
          refine wpAnyH_ready (rs := [6]) (by kernel_rfl) (by simp) (AllReadyH.cons rfl (fun K hK => ?_) AllReadyH.nil)
          rw [if_pos (by kernel_rfl)]
          try go_simp
          refine (cut_blobs vb qc.blobs 10 _ _ HBS.out.reads (by omega) (by omega)).mono ?_
          rintro e w41 ⟨v41, rfl, hv41, rfl⟩
          have HV41 := hide hv41
          clear hv41
          refine hK.out _ _ hHeld (fun hHeld => ?_)
          clear hK K
          try simp only [Act.put, List.setIfInBounds_toArray, List.set_cons_zero, List.set_cons_succ]
          refine wpAnyH_ready (rs := [7]) (by kernel_rfl) (by simp) (AllReadyH.cons rfl (fun K hK => ?_) AllReadyH.nil)
          rw [if_pos (by kernel_rfl)]
          try go_simp
          refine (copy_blobs v41 lb _ (by rw [← HLB.out]; exact HV41.out) (fun x hx => by have := HLX.out x hx; exact ⟨this.1, by omega⟩) (by have := HLN.out.2; omega)).mono ?_
          rintro e w42 ⟨v42, rfl, ho42, hb42⟩
          clear HV41
          replace HQ := hide (HQ.out.below hb42 HQ.out.lt)
          replace HTS := hide ((HTS.out.below hb42 (Nat.le_refl _)).more hb42.size)
          replace HBS := hide (HBS.out.kept hb42)
          try replace HOT := hide (HOT.out.keptB hb42)
          try replace HOB := hide (HOB.out.keptB hb42)
          have HX := hide (hHeld.trans (hb42.mono hHeld.size))
          have HOB := hide (ho42.lower hHeld.size)
          clear ho42 hb42
          refine hK.out _ _ HX.out (fun hHeld => ?_)
          clear HX hK K
          try simp only [Act.put, List.setIfInBounds_toArray, List.set_cons_zero, List.set_cons_succ]
          refine wpAnyH_ready (rs := [9]) (by kernel_rfl) (by simp) (AllReadyH.cons rfl (fun K hK => ?_) AllReadyH.nil)
          rw [if_pos (by kernel_rfl)]
          clear HTS HBS
          refine wp_rq_put1D 29 _ _ rfl rfl 50 rfl HQ.out v38 rfl HOT.out.one (by kernel_rfl) (by omega) qn v38 vb (rq_setT HQ.out.keys _) HQ.out.keys HOT.out.one HQ.out.oneB ?_
          intro ws9 hs9 hg9
          replace HOT := hide (HOT.out.past HQ.out.blk (by decide) hg9)
          replace HOB := hide (HOB.out.past HQ.out.blk (by decide) (by decide) hg9)
          replace HQ := hide hs9
          have HX := hide (hHeld.grown hg9 hHeld.size (by intro k hk; injection hk; omega))
          clear hs9 hg9
          refine hK.out _ _ HX.out (fun hHeld => ?_)
          clear HX hK K
          try simp only [Act.put, List.setIfInBounds_toArray, List.set_cons_zero, List.set_cons_succ]
          refine take_d 44 (i := 10) (v := .pointer (some ⟨g2, 51, none⟩)) rfl (by kernel_rfl) (by kernel_rfl) (by kernel_rfl) (by kernel_rfl) (fun _ _ _ h => h) (Or.inl ⟨by kernel_rfl, fun w' hS => exec_fieldG _ _ 6 51 rfl g2 0 rfl (by kernel_rfl) _ (by first | rfl | omega)⟩) hHeld ?_
          try simp only [Act.put, List.setIfInBounds_toArray, List.set_cons_zero, List.set_cons_succ]
          refine wpAnyH_ready (rs := [11]) (by kernel_rfl) (by simp) (AllReadyH.cons rfl (fun K hK => ?_) AllReadyH.nil)
          rw [if_pos (by kernel_rfl)]
          refine wp_rq_put1D 23 _ _ rfl rfl 51 rfl HQ.out v42 rfl HOB.out.one (by kernel_rfl) (by omega) qn v38 v42 (rq_setB HQ.out.keys _) HQ.out.keys HOT.out.one HOB.out.one ?_
          intro ws11 hs11 hg11
          replace HOT := hide (HOT.out.past HQ.out.blk (by decide) hg11)
          replace HOB := hide (HOB.out.past HQ.out.blk (by decide) (by decide) hg11)
          replace HQ := hide hs11
          have HX := hide (hHeld.grown hg11 hHeld.size (by intro k hk; injection hk; omega))
          clear hs11 hg11
          refine hK.out _ _ HX.out (fun hHeld => ?_)
          clear HX hK K
          try simp only [Act.put, List.setIfInBounds_toArray, List.set_cons_zero, List.set_cons_succ]
          refine wpAnyH_done (by kernel_rfl) ?_ _
          go_wp2_with fail
          go_meet
          exact ⟨v38, v42, HQ.out, HOT.out, HOB.out, hHeld⟩
      case q4_5 =>
        rw [if_pos (by kernel_rfl)]
        refine wp_valueD 40 rfl vb (exec_load_one _ _ rfl g2 51 rfl _ Tryd.underlying23 rfl _ HQ.out.cellB) ?_
        refine hK.out _ _ hHeld (fun hHeld => ?_)
        clear hK K
        try simp only [Act.put, List.setIfInBounds_toArray, List.set_cons_zero, List.set_cons_succ]
        refine wpAnyH_ready (rs := [2]) (by kernel_rfl) (by simp) (AllReadyH.cons rfl (fun K hK => ?_) AllReadyH.nil)
        rw [if_pos (by kernel_rfl)]
        try go_simp
        refine (cut_tests vt qc.tests 10 _ _ HTS.out (by omega) (by omega)).mono ?_
        rintro e w37 ⟨v37, rfl, hv37, rfl⟩
        have HV37 := hide hv37
        clear hv37
        refine hK.out _ _ hHeld (fun hHeld => ?_)
        clear hK K
        try simp only [Act.put, List.setIfInBounds_toArray, List.set_cons_zero, List.set_cons_succ]
        refine wpAnyH_ready (rs := [3]) (by kernel_rfl) (by simp) (AllReadyH.cons rfl (fun K hK => ?_) AllReadyH.nil)
        rw [if_pos (by kernel_rfl)]
        try go_simp
        refine (copy_tests v37 lt _ _ (by rw [← HLT.out]; exact HV37.out) (by have := HLN.out.1; omega)).mono ?_
        rintro e w38 ⟨v38, rfl, ho38, hb38⟩
        clear HV37
        replace HQ := hide (HQ.out.below hb38 HQ.out.lt)
        replace HTS := hide ((HTS.out.below hb38 (Nat.le_refl _)).more hb38.size)
        replace HBS := hide (HBS.out.kept hb38)
        try replace HOT := hide (HOT.out.keptB hb38)
        try replace HOB := hide (HOB.out.keptB hb38)
        have HX := hide (hHeld.trans (hb38.mono hHeld.size))
        have HOT := hide (ho38.lower hHeld.size)
        clear ho38 hb38
        refine hK.out _ _ HX.out (fun hHeld => ?_)
        clear HX hK K
        try simp only [Act.put, List.setIfInBounds_toArray, List.set_cons_zero, List.set_cons_succ]
        refine take_d 43 (i := 8) (v := .pointer (some ⟨g2, 50, none⟩)) rfl (by kernel_rfl) (by kernel_rfl) (by kernel_rfl) (by kernel_rfl) (fun _ _ _ h => h) (Or.inl ⟨by kernel_rfl, fun w' hS => exec_fieldG _ _ 5 50 rfl g2 0 rfl (by kernel_rfl) _ (by first | rfl | omega)⟩) hHeld ?_
        try simp only [Act.put, List.setIfInBounds_toArray, List.set_cons_zero, List.set_cons_succ]
        refine wpAnyH_ready (rs := [6]) (by kernel_rfl) (by simp) (AllReadyH.cons rfl (fun K hK => ?_) AllReadyH.nil)
        rw [if_pos (by kernel_rfl)]
        try go_simp
        refine (cut_blobs vb qc.blobs 10 _ _ HBS.out.reads (by omega) (by omega)).mono ?_
        rintro e w41 ⟨v41, rfl, hv41, rfl⟩
        have HV41 := hide hv41
        clear hv41
        refine hK.out _ _ hHeld (fun hHeld => ?_)
        clear hK K
        try simp only [Act.put, List.setIfInBounds_toArray, List.set_cons_zero, List.set_cons_succ]
        refine wpAnyH_ready (rs := [7]) (by kernel_rfl) (by simp) (AllReadyH.cons rfl (fun K hK => ?_) AllReadyH.nil)
        rw [if_pos (by kernel_rfl)]
        try go_simp
        refine (copy_blobs v41 lb _ (by rw [← HLB.out]; exact HV41.out) (fun x hx => by have := HLX.out x hx; exact ⟨this.1, by omega⟩) (by have := HLN.out.2; omega)).mono ?_
        rintro e w42 ⟨v42, rfl, ho42, hb42⟩
        clear HV41
        replace HQ := hide (HQ.out.below hb42 HQ.out.lt)
        replace HTS := hide ((HTS.out.below hb42 (Nat.le_refl _)).more hb42.size)
        replace HBS := hide (HBS.out.kept hb42)
        try replace HOT := hide (HOT.out.keptB hb42)
        try replace HOB := hide (HOB.out.keptB hb42)
        have HX := hide (hHeld.trans (hb42.mono hHeld.size))
        have HOB := hide (ho42.lower hHeld.size)
        clear ho42 hb42
        refine hK.out _ _ HX.out (fun hHeld => ?_)
        clear HX hK K
        try simp only [Act.put, List.setIfInBounds_toArray, List.set_cons_zero, List.set_cons_succ]
        refine wpAnyH_ready (rs := [9]) (by kernel_rfl) (by simp) (AllReadyH.cons rfl (fun K hK => ?_) AllReadyH.nil)
        rw [if_pos (by kernel_rfl)]
        clear HTS HBS
        refine wp_rq_put1D 29 _ _ rfl rfl 50 rfl HQ.out v38 rfl HOT.out.one (by kernel_rfl) (by omega) qn v38 vb (rq_setT HQ.out.keys _) HQ.out.keys HOT.out.one HQ.out.oneB ?_
        intro ws9 hs9 hg9
        replace HOT := hide (HOT.out.past HQ.out.blk (by decide) hg9)
        replace HOB := hide (HOB.out.past HQ.out.blk (by decide) (by decide) hg9)
        replace HQ := hide hs9
        have HX := hide (hHeld.grown hg9 hHeld.size (by intro k hk; injection hk; omega))
        clear hs9 hg9
        refine hK.out _ _ HX.out (fun hHeld => ?_)
        clear HX hK K
        try simp only [Act.put, List.setIfInBounds_toArray, List.set_cons_zero, List.set_cons_succ]
        refine take_d 44 (i := 10) (v := .pointer (some ⟨g2, 51, none⟩)) rfl (by kernel_rfl) (by kernel_rfl) (by kernel_rfl) (by kernel_rfl) (fun _ _ _ h => h) (Or.inl ⟨by kernel_rfl, fun w' hS => exec_fieldG _ _ 6 51 rfl g2 0 rfl (by kernel_rfl) _ (by first | rfl | omega)⟩) hHeld ?_
        try simp only [Act.put, List.setIfInBounds_toArray, List.set_cons_zero, List.set_cons_succ]
        refine wpAnyH_ready (rs := [11]) (by kernel_rfl) (by simp) (AllReadyH.cons rfl (fun K hK => ?_) AllReadyH.nil)
        rw [if_pos (by kernel_rfl)]
        refine wp_rq_put1D 23 _ _ rfl rfl 51 rfl HQ.out v42 rfl HOB.out.one (by kernel_rfl) (by omega) qn v38 v42 (rq_setB HQ.out.keys _) HQ.out.keys HOT.out.one HOB.out.one ?_
        intro ws11 hs11 hg11
        replace HOT := hide (HOT.out.past HQ.out.blk (by decide) hg11)
        replace HOB := hide (HOB.out.past HQ.out.blk (by decide) (by decide) hg11)
        replace HQ := hide hs11
        have HX := hide (hHeld.grown hg11 hHeld.size (by intro k hk; injection hk; omega))
        clear hs11 hg11
        refine hK.out _ _ HX.out (fun hHeld => ?_)
        clear HX hK K
        try simp only [Act.put, List.setIfInBounds_toArray, List.set_cons_zero, List.set_cons_succ]
        refine wpAnyH_done (by kernel_rfl) ?_ _
        go_wp2_with fail
        go_meet
        exact ⟨v38, v42, HQ.out, HOT.out, HOB.out, hHeld⟩
    case q2_5 =>
      rw [if_pos (by kernel_rfl)]
      refine wp_valueD 40 rfl vb (exec_load_one _ _ rfl g2 51 rfl _ Tryd.underlying23 rfl _ HQ.out.cellB) ?_
      refine hK.out _ _ hHeld (fun hHeld => ?_)
      clear hK K
      try simp only [Act.put, List.setIfInBounds_toArray, List.set_cons_zero, List.set_cons_succ]
      refine wpAnyH_ready (rs := [1]) (by kernel_rfl) (by simp) (AllReadyH.cons rfl (fun K hK => ?_) AllReadyH.nil)
      rw [if_pos (by kernel_rfl)]
      refine wp_valueD 36 rfl vt (exec_load_one _ _ rfl g2 50 rfl _ Tryd.underlying29 rfl _ HQ.out.cellT) ?_
      refine hK.out _ _ hHeld (fun hHeld => ?_)
      clear hK K
      try simp only [Act.put, List.setIfInBounds_toArray, List.set_cons_zero, List.set_cons_succ]
      refine wpAnyH_ready (rs := [2]) (by kernel_rfl) (by simp) (AllReadyH.cons rfl (fun K hK => ?_) AllReadyH.nil)
      rw [if_pos (by kernel_rfl)]
      try go_simp
      refine (cut_tests vt qc.tests 10 _ _ HTS.out (by omega) (by omega)).mono ?_
      rintro e w37 ⟨v37, rfl, hv37, rfl⟩
      have HV37 := hide hv37
      clear hv37
      refine hK.out _ _ hHeld (fun hHeld => ?_)
      clear hK K
      try simp only [Act.put, List.setIfInBounds_toArray, List.set_cons_zero, List.set_cons_succ]
      refine wpAnyH_ready (rs := [3]) (by kernel_rfl) (by simp) (AllReadyH.cons rfl (fun K hK => ?_) AllReadyH.nil)
      rw [if_pos (by kernel_rfl)]
      try go_simp
      refine (copy_tests v37 lt _ _ (by rw [← HLT.out]; exact HV37.out) (by have := HLN.out.1; omega)).mono ?_
      rintro e w38 ⟨v38, rfl, ho38, hb38⟩
      clear HV37
      replace HQ := hide (HQ.out.below hb38 HQ.out.lt)
      replace HTS := hide ((HTS.out.below hb38 (Nat.le_refl _)).more hb38.size)
      replace HBS := hide (HBS.out.kept hb38)
      try replace HOT := hide (HOT.out.keptB hb38)
      try replace HOB := hide (HOB.out.keptB hb38)
      have HX := hide (hHeld.trans (hb38.mono hHeld.size))
      have HOT := hide (ho38.lower hHeld.size)
      clear ho38 hb38
      refine hK.out _ _ HX.out (fun hHeld => ?_)
      clear HX hK K
      try simp only [Act.put, List.setIfInBounds_toArray, List.set_cons_zero, List.set_cons_succ]
      refine take_d 43 (i := 8) (v := .pointer (some ⟨g2, 50, none⟩)) rfl (by kernel_rfl) (by kernel_rfl) (by kernel_rfl) (by kernel_rfl) (fun _ _ _ h => h) (Or.inl ⟨by kernel_rfl, fun w' hS => exec_fieldG _ _ 5 50 rfl g2 0 rfl (by kernel_rfl) _ (by first | rfl | omega)⟩) hHeld ?_
      try simp only [Act.put, List.setIfInBounds_toArray, List.set_cons_zero, List.set_cons_succ]
      refine wpAnyH_ready (rs := [6]) (by kernel_rfl) (by simp) (AllReadyH.cons rfl (fun K hK => ?_) AllReadyH.nil)
      rw [if_pos (by kernel_rfl)]
      try go_simp
      refine (cut_blobs vb qc.blobs 10 _ _ HBS.out.reads (by omega) (by omega)).mono ?_
      rintro e w41 ⟨v41, rfl, hv41, rfl⟩
      have HV41 := hide hv41
      clear hv41
      refine hK.out _ _ hHeld (fun hHeld => ?_)
      clear hK K
      try simp only [Act.put, List.setIfInBounds_toArray, List.set_cons_zero, List.set_cons_succ]
      refine wpAnyH_ready (rs := [7]) (by kernel_rfl) (by simp) (AllReadyH.cons rfl (fun K hK => ?_) AllReadyH.nil)
      rw [if_pos (by kernel_rfl)]
      try go_simp
      refine (copy_blobs v41 lb _ (by rw [← HLB.out]; exact HV41.out) (fun x hx => by have := HLX.out x hx; exact ⟨this.1, by omega⟩) (by have := HLN.out.2; omega)).mono ?_
      rintro e w42 ⟨v42, rfl, ho42, hb42⟩
      clear HV41
      replace HQ := hide (HQ.out.below hb42 HQ.out.lt)
      replace HTS := hide ((HTS.out.below hb42 (Nat.le_refl _)).more hb42.size)
      replace HBS := hide (HBS.out.kept hb42)
      try replace HOT := hide (HOT.out.keptB hb42)
      try replace HOB := hide (HOB.out.keptB hb42)
      have HX := hide (hHeld.trans (hb42.mono hHeld.size))
      have HOB := hide (ho42.lower hHeld.size)
      clear ho42 hb42
      refine hK.out _ _ HX.out (fun hHeld => ?_)
      clear HX hK K
      try simp only [Act.put, List.setIfInBounds_toArray, List.set_cons_zero, List.set_cons_succ]
      refine wpAnyH_ready (rs := [9]) (by kernel_rfl) (by simp) (AllReadyH.cons rfl (fun K hK => ?_) AllReadyH.nil)
      rw [if_pos (by kernel_rfl)]
      clear HTS HBS
      refine wp_rq_put1D 29 _ _ rfl rfl 50 rfl HQ.out v38 rfl HOT.out.one (by kernel_rfl) (by omega) qn v38 vb (rq_setT HQ.out.keys _) HQ.out.keys HOT.out.one HQ.out.oneB ?_
      intro ws9 hs9 hg9
      replace HOT := hide (HOT.out.past HQ.out.blk (by decide) hg9)
      replace HOB := hide (HOB.out.past HQ.out.blk (by decide) (by decide) hg9)
      replace HQ := hide hs9
      have HX := hide (hHeld.grown hg9 hHeld.size (by intro k hk; injection hk; omega))
      clear hs9 hg9
      refine hK.out _ _ HX.out (fun hHeld => ?_)
      clear HX hK K
      try simp only [Act.put, List.setIfInBounds_toArray, List.set_cons_zero, List.set_cons_succ]
      refine take_d 44 (i := 10) (v := .pointer (some ⟨g2, 51, none⟩)) rfl (by kernel_rfl) (by kernel_rfl) (by kernel_rfl) (by kernel_rfl) (fun _ _ _ h => h) (Or.inl ⟨by kernel_rfl, fun w' hS => exec_fieldG _ _ 6 51 rfl g2 0 rfl (by kernel_rfl) _ (by first | rfl | omega)⟩) hHeld ?_
      try simp only [Act.put, List.setIfInBounds_toArray, List.set_cons_zero, List.set_cons_succ]
      refine wpAnyH_ready (rs := [11]) (by kernel_rfl) (by simp) (AllReadyH.cons rfl (fun K hK => ?_) AllReadyH.nil)
      rw [if_pos (by kernel_rfl)]
      refine wp_rq_put1D 23 _ _ rfl rfl 51 rfl HQ.out v42 rfl HOB.out.one (by kernel_rfl) (by omega) qn v38 v42 (rq_setB HQ.out.keys _) HQ.out.keys HOT.out.one HOB.out.one ?_
      intro ws11 hs11 hg11
      replace HOT := hide (HOT.out.past HQ.out.blk (by decide) hg11)
      replace HOB := hide (HOB.out.past HQ.out.blk (by decide) (by decide) hg11)
      replace HQ := hide hs11
      have HX := hide (hHeld.grown hg11 hHeld.size (by intro k hk; injection hk; omega))
      clear hs11 hg11
      refine hK.out _ _ HX.out (fun hHeld => ?_)
      clear HX hK K
      try simp only [Act.put, List.setIfInBounds_toArray, List.set_cons_zero, List.set_cons_succ]
      refine wpAnyH_done (by kernel_rfl) ?_ _
      go_wp2_with fail
      go_meet
      exact ⟨v38, v42, HQ.out, HOT.out, HOB.out, hHeld⟩
  obtain ⟨vT, vB, hq, hot, hob, hbel⟩ := hcut
  have HOT := hide hot
  have HOB := hide hob
  replace HQ := hide hq
  replace HB := hide hbel
  obtain ⟨AT, cT, rfl⟩ := hot.shape
  obtain ⟨m, HM⟩ : ∃ x, Hid (lt.length = x) := ⟨_, hide rfl⟩
  rw [HM.out] at HQ HOT
  have hm10 : m ≤ 10 := by have := HLN.out.1; have := HM.out; omega
  have HVB := hide hob.one
  clear hq hot hob hbel HTS HBS HNO HTO HBO
  go_wp2_with (first
    | (refine wpList_rq_tests _ rfl rfl rfl HQ.out ?_))
  go_loopw [48] (fun v48 wr => ∃ i : Nat, v48 = .int .i64 (i : Int) ∧ i ≤ m ∧ OwnTsts wr w.heap.size (.slice AT m cT) (normTs lt i) ∧ OwnBlbsR wr w.heap.size vB lb ∧ ReqB wr g2 qn (.slice AT m cT) vB ∧ Below w.heap.size w wr) (fun v48 _ => m - (intOf v48).toNat)
  case atStart => exact ⟨0, by go_num, by omega, HOT.out, HOB.out, HQ.out, HB.out⟩
  case round =>
    obtain ⟨i, rfl, him', hot, hob, hq, hbel⟩ := hrel
    clear HOT HOB HQ HB
    have HOT := hide hot
    have HOB := hide hob
    have HQ := hide hq
    have HB := hide hbel
    have HLL := hide (show (normTs lt i).length = m by rw [normTs_len, HM.out])
    clear hot hob hq hbel
    by_cases him : i < m
    · have him1 : (i : Int) < (m : Int) := by omega
      obtain ⟨ge, rfl, hge1, hge2⟩ := HOT.out.blk_ (by rw [HLL.out]; omega)
      obtain ⟨tt, HTT⟩ : ∃ x, Hid (lt[i]'(by rw [HM.out]; exact him) = x) := ⟨_, hide rfl⟩
      have HNG := hide (show (normTs lt i)[i]'(by rw [HLL.out]; exact him) = tt by rw [normTs_get lt i (by rw [HM.out]; exact him), HTT.out])
      obtain ⟨X, HXX⟩ : ∃ x, Hid (tt.num = x) := ⟨_, hide rfl⟩
      have HNX := hide (show ((normTs lt i)[i]'(by rw [HLL.out]; exact him)).num = X by rw [HNG.out, HXX.out])
      have HSET := hide (show (normTs lt i).set i (normT tt) = normTs lt (i + 1) by rw [← HTT.out]; exact normTs_set lt i (by rw [HM.out]; exact him))
      have hin := HLI.out _ (List.getElem_mem (show i < lt.length by rw [HM.out]; exact him))
      rw [HTT.out] at hin
      have HXI := hide (show -9223372036854775808 ≤ X ∧ X ≤ 9223372036854775807 from by rw [← HXX.out]; exact hin.2.2)
      clear hin
      go_upto_region 7 with fail
      refine wp_region_held_drew (S := fun w' => ReqB w' g2 qn (.slice (some ⟨ge, 0, none⟩) m cT) vB) (by kernel_rfl) HQ.out.drew (fun hHeld => ?_)
      replace HOT := hide (HOT.out.keptB (Below.refl _ _).drew)
      replace HOB := hide (HOB.out.keptB (Below.refl _ _).drew)
      replace HB := hide HB.out.drew
      have HNC := hide ((HOT.out.num_cell i (by rw [HLL.out]; exact him)).trans (show _ = some (Value.int .i64 X) by rw [HNX.out]))
      refine take_d 51 (i := 0) (v := .pointer (some ⟨g2, 50, none⟩)) rfl (by kernel_rfl) (by kernel_rfl) (by kernel_rfl) (by kernel_rfl) (fun _ _ _ h => h) (Or.inl ⟨by kernel_rfl, fun w' hS => exec_fieldG _ _ 5 50 rfl g2 0 rfl (by kernel_rfl) _ (by first | rfl | omega)⟩) hHeld ?_
      try simp only [Act.put, List.setIfInBounds_toArray, List.set_cons_zero, List.set_cons_succ]
      refine take_d 52 (i := 1) (v := .slice (some ⟨ge, 0, none⟩) m cT) rfl (by kernel_rfl) (by kernel_rfl) (by kernel_rfl) (by kernel_rfl) (fun _ _ _ h => h) (Or.inl ⟨by kernel_rfl, fun w' hS => exec_load_one _ _ rfl g2 50 rfl _ Tryd.underlying29 rfl _ hS.cellT⟩) hHeld ?_
      try simp only [Act.put, List.setIfInBounds_toArray, List.set_cons_zero, List.set_cons_succ]
      refine take_d 53 (i := 2) (v := .int .i64 ((i : Int))) rfl (by kernel_rfl) (by kernel_rfl) (by kernel_rfl) (by kernel_rfl) (fun _ _ _ h => h) (Or.inl ⟨by kernel_rfl, fun w' hS => exec_move _ rfl (.int .i64 ((i : Int))) rfl⟩) hHeld ?_
      try simp only [Act.put, List.setIfInBounds_toArray, List.set_cons_zero, List.set_cons_succ]
      refine take_d 54 (i := 3) (v := .pointer (some ⟨g2, 50, none⟩)) rfl (by kernel_rfl) (by kernel_rfl) (by kernel_rfl) (by kernel_rfl) (fun _ _ _ h => h) (Or.inl ⟨by kernel_rfl, fun w' hS => exec_fieldG _ _ 5 50 rfl g2 0 rfl (by kernel_rfl) _ (by first | rfl | omega)⟩) hHeld ?_
      try simp only [Act.put, List.setIfInBounds_toArray, List.set_cons_zero, List.set_cons_succ]
      refine take_d 55 (i := 4) (v := .slice (some ⟨ge, 0, none⟩) m cT) rfl (by kernel_rfl) (by kernel_rfl) (by kernel_rfl) (by kernel_rfl) (fun _ _ _ h => h) (Or.inl ⟨by kernel_rfl, fun w' hS => exec_load_one _ _ rfl g2 50 rfl _ Tryd.underlying29 rfl _ hS.cellT⟩) hHeld ?_
      try simp only [Act.put, List.setIfInBounds_toArray, List.set_cons_zero, List.set_cons_succ]
      refine take_d 56 (i := 5) (v := .int .i64 ((i : Int))) rfl (by kernel_rfl) (by kernel_rfl) (by kernel_rfl) (by kernel_rfl) (fun _ _ _ h => h) (Or.inl ⟨by kernel_rfl, fun w' hS => exec_move _ rfl (.int .i64 ((i : Int))) rfl⟩) hHeld ?_
      try simp only [Act.put, List.setIfInBounds_toArray, List.set_cons_zero, List.set_cons_succ]
      refine take_d 57 (i := 6) (v := .pointer (some ⟨ge, i * 34, none⟩)) rfl (by kernel_rfl) (by kernel_rfl) (by kernel_rfl) (by kernel_rfl) (fun _ _ _ h => h) (Or.inl ⟨by kernel_rfl, fun w' hS => exec_indexG _ _ _ rfl _ m cT ge 0 34 i rfl rfl rfl (by omega) (by kernel_rfl) _ (by omega)⟩) hHeld ?_
      try simp only [Act.put, List.setIfInBounds_toArray, List.set_cons_zero, List.set_cons_succ]
      refine take_d 58 (i := 7) (v := .pointer (some ⟨ge, i * 34, none⟩)) rfl (by kernel_rfl) (by kernel_rfl) (by kernel_rfl) (by kernel_rfl) (fun _ _ _ h => h) (Or.inl ⟨by kernel_rfl, fun w' hS => exec_fieldG _ _ 0 0 rfl ge (i * 34) rfl (by kernel_rfl) _ (by first | rfl | omega)⟩) hHeld ?_
      try simp only [Act.put, List.setIfInBounds_toArray, List.set_cons_zero, List.set_cons_succ]
      refine wpAnyH_ready (rs := [8]) (by kernel_rfl) (by simp) (AllReadyH.cons rfl (fun K hK => ?_) AllReadyH.nil)
      rw [if_pos (by kernel_rfl)]
      refine wp_valueD 59 rfl (.int .i64 X) (exec_load_one _ _ rfl ge (i * 34) rfl _ Tryd.underlying3 rfl _ HNC.out) ?_
      refine hK.out _ _ hHeld (fun hHeld => ?_)
      clear hK K
      try simp only [Act.put, List.setIfInBounds_toArray, List.set_cons_zero, List.set_cons_succ]
      refine wpAnyH_ready (rs := [9]) (by kernel_rfl) (by simp) (AllReadyH.cons rfl (fun K hK => ?_) AllReadyH.nil)
      rw [if_pos (by kernel_rfl)]
      try go_simp
      refine (within_any X 16 _ HXI.out.1 HXI.out.2 (by omega)).mono ?_
      rintro e w60 ⟨rfl, rfl⟩
      refine hK.out _ _ hHeld (fun hHeld => ?_)
      clear hK K
      try simp only [Act.put, List.setIfInBounds_toArray, List.set_cons_zero, List.set_cons_succ]
      refine take_d 61 (i := 10) (v := .pointer (some ⟨ge, i * 34, none⟩)) rfl (by kernel_rfl) (by kernel_rfl) (by kernel_rfl) (by kernel_rfl) (fun _ _ _ h => h) (Or.inl ⟨by kernel_rfl, fun w' hS => exec_indexG _ _ _ rfl _ m cT ge 0 34 i rfl rfl rfl (by omega) (by kernel_rfl) _ (by omega)⟩) hHeld ?_
      try simp only [Act.put, List.setIfInBounds_toArray, List.set_cons_zero, List.set_cons_succ]
      refine take_d 62 (i := 11) (v := .pointer (some ⟨ge, i * 34, none⟩)) rfl (by kernel_rfl) (by kernel_rfl) (by kernel_rfl) (by kernel_rfl) (fun _ _ _ h => h) (Or.inl ⟨by kernel_rfl, fun w' hS => exec_fieldG _ _ 0 0 rfl ge (i * 34) rfl (by kernel_rfl) _ (by first | rfl | omega)⟩) hHeld ?_
      try simp only [Act.put, List.setIfInBounds_toArray, List.set_cons_zero, List.set_cons_succ]
      refine wpAnyH_ready (rs := [12]) (by kernel_rfl) (by simp) (AllReadyH.cons rfl (fun K hK => ?_) AllReadyH.nil)
      rw [if_pos (by kernel_rfl)]
      refine wp_store_tnumD _ _ rfl rfl HOT.out i (i * 34) (by rw [HLL.out]; exact him) rfl (within X 16) rfl rfl ?_
      intro ws12 hs12 hg12
      obtain ⟨csT, hcsT⟩ := HOT.out.typ
      replace HOB := hide (HOB.out.past hcsT (by decide) (by decide) hg12)
      replace HOT := hide hs12
      replace HB := hide (HB.out.grown hg12 HB.out.size (by intro k hk; injection hk; omega))
      have HX := hide (hHeld.other hcsT (by decide) hg12)
      clear hs12 hg12 hcsT
      refine hK.out _ _ HX.out (fun hHeld => ?_)
      clear HX hK K
      try simp only [Act.put, List.setIfInBounds_toArray, List.set_cons_zero, List.set_cons_succ]
      refine wpAnyH_done (by kernel_rfl) ?_ _
      replace HQ := hide hHeld
      have HT1 := hide (show (normTs lt i).set i { (normTs lt i)[i]'(by rw [HLL.out]; exact him) with num := within X 16 } = (normTs lt i).set i { tt with num := within tt.num 16 } by rw [HNG.out, HXX.out])
      rw [HT1.out] at HOT
      have HL1 := hide (show ((normTs lt i).set i { tt with num := within tt.num 16 }).length = m by rw [List.length_set, HLL.out])
      obtain ⟨q, HQB⟩ : ∃ q, Hid (tt.absent = q) := ⟨_, hide rfl⟩
      have HG1 := hide (show ((normTs lt i).set i { tt with num := within tt.num 16 })[i]'(by rw [HL1.out]; exact him) = { tt with num := within tt.num 16 } by rw [List.getElem_set_self])
      have HAB := hide ((HOT.out.abs_cell i (by rw [HL1.out]; exact him)).trans (show _ = some (Value.bool q) by rw [HG1.out, ← HQB.out]))
      rcases q with _ | _
      case false =>
        have HFIN := hide (show (normTs lt i).set i { tt with num := within tt.num 16 } = normTs lt (i + 1) by rw [normT_no HQB.out]; exact HSET.out)
        rw [HFIN.out] at HOT
        go_wp2_with (first
          | (refine wpList_rq_tests _ rfl rfl rfl HQ.out ?_)
          | (refine wpList_val rfl (exec_load_one _ _ rfl ge (i * 34 + 1) rfl _ Tryd.underlying4 rfl _ HAB.out) ?_))
        exact ⟨⟨i + 1, rfl, by omega, HOT.out, HOB.out, HQ.out, HB.out⟩, by show m - ((i : Int) + 1).toNat < m - (i : Int).toNat; omega⟩
      case true =>
        have HFIN := hide (show ((normTs lt i).set i { tt with num := within tt.num 16 }).set i { ((normTs lt i).set i { tt with num := within tt.num 16 })[i]'(by rw [HL1.out]; exact him) with want := List.replicate 32 0 } = normTs lt (i + 1) by
          rw [HG1.out, List.set_set]
          exact (congrArg (fun z => (normTs lt i).set i z) (normT_yes HQB.out)).trans HSET.out)
        go_wp2_with (first
          | (refine wpList_rq_tests _ rfl rfl rfl HQ.out ?_)
          | (refine wpList_val rfl (exec_load_one _ _ rfl ge (i * 34 + 1) rfl _ Tryd.underlying4 rfl _ HAB.out) ?_)
          | (refine wpList_st_build 58 #[] rfl rfl (u8s (List.replicate 32 0)) built_hash0 ?_)
          | (refine wpList_store_twant _ _ rfl rfl HOT.out i (i * 34 + 2) (by rw [HL1.out]; exact him) rfl (List.replicate 32 0) (by simp) rfl rfl size_hash32 ?_; intro w13 ho13 hg13; obtain ⟨csT, hcsT⟩ := HOT.out.typ; replace HOB := hide (HOB.out.past hcsT (by decide) (by decide) hg13); rw [HFIN.out] at ho13; replace HOT := hide ho13; replace HB := hide (HB.out.grown hg13 HB.out.size (by intro k hk; injection hk; omega)); replace HQ := hide (HQ.out.other hcsT (by decide) hg13); clear ho13 hg13 hcsT))
        exact ⟨⟨i + 1, rfl, by omega, HOT.out, HOB.out, HQ.out, HB.out⟩, by show m - ((i : Int) + 1).toNat < m - (i : Int).toNat; omega⟩
    · obtain rfl : i = m := by omega
      have him1 : ¬ (i : Int) < (i : Int) := by omega
      replace HOT := hide (show OwnTsts _ w.heap.size (.slice AT i cT) qn.tests from by have := HOT.out; rw [normTs_all lt i (by rw [HM.out]; exact Nat.le_refl _), ← HNT.out] at this; exact this)
      obtain ⟨AB, cB, rfl⟩ := HOB.out.shape
      obtain ⟨m2, HM2⟩ : ∃ x, Hid (lb.length = x) := ⟨_, hide rfl⟩
      rw [HM2.out] at HOB HQ
      have hm2 : m2 ≤ 10 := by have := HLN.out.2; have := HM2.out; omega
      obtain ⟨vT, HVT⟩ : ∃ v, Hid (Value.slice AT i cT = v) := ⟨_, hide rfl⟩
      rw [HVT.out] at HOT HQ
      clear HLL HVB
      go_wp2_with (first
        | (refine wpList_rq_blobs _ rfl rfl rfl HQ.out ?_))
      go_loopw [79] (fun v79 wr => ∃ i : Nat, v79 = .int .i64 (i : Int) ∧ i ≤ m2 ∧ OwnBlbsR wr w.heap.size (.slice AB m2 cB) (normB lb i) ∧ OwnTsts wr w.heap.size vT qn.tests ∧ ReqB wr g2 qn vT (.slice AB m2 cB) ∧ Below w.heap.size w wr) (fun v79 _ => m2 - (intOf v79).toNat)
      case atStart => exact ⟨0, by go_num, by omega, HOB.out, HOT.out, HQ.out, HB.out⟩
      case round =>
        obtain ⟨i, rfl, him', hob, hot, hq, hbel⟩ := hrel
        clear HOT HOB HQ HB
        have HOT := hide hot
        have HOB := hide hob
        have HQ := hide hq
        have HB := hide hbel
        have HLL := hide (show (normB lb i).length = m2 by rw [normB_len, HM2.out])
        clear hob hot hq hbel
        by_cases him : i < m2
        · have him2 : (i : Int) < (m2 : Int) := by omega
          obtain ⟨ge, rfl, hge1, hge2⟩ := HOB.out.blk_ (by rw [HLL.out]; omega)
          obtain ⟨X, HXX⟩ : ∃ x, Hid ((lb[i]'(by rw [HM2.out]; exact him)).1 = x) := ⟨_, hide rfl⟩
          have HNX := hide (show ((normB lb i)[i]'(by rw [HLL.out]; exact him)).1 = X by rw [normB_get lb i (by rw [HM2.out]; exact him), HXX.out])
          have HSET := hide (show (normB lb i).set i (within X 16, ((normB lb i)[i]'(by rw [HLL.out]; exact him)).2) = normB lb (i + 1) by rw [normB_get lb i (by rw [HM2.out]; exact him), ← HXX.out]; exact normB_set lb i (by rw [HM2.out]; exact him))
          have HXI := hide (show -9223372036854775808 ≤ X ∧ X ≤ 9223372036854775807 from by rw [← HXX.out]; exact (HLX.out _ (List.getElem_mem (by rw [HM2.out]; exact him))).2.1)
          go_upto_region 14 with fail
          refine wp_region_held_drew (S := fun w' => ReqB w' g2 qn vT (.slice (some ⟨ge, 0, none⟩) m2 cB)) (by kernel_rfl) HQ.out.drew (fun hHeld => ?_)
          replace HOT := hide (HOT.out.keptB (Below.refl _ _).drew)
          replace HOB := hide (HOB.out.keptB (Below.refl _ _).drew)
          replace HB := hide HB.out.drew
          have HNC := hide ((HOB.out.num_cell i (by rw [HLL.out]; exact him)).trans (show _ = some (Value.int .i64 X) by rw [HNX.out]))
          refine take_d 82 (i := 0) (v := .pointer (some ⟨g2, 51, none⟩)) rfl (by kernel_rfl) (by kernel_rfl) (by kernel_rfl) (by kernel_rfl) (fun _ _ _ h => h) (Or.inl ⟨by kernel_rfl, fun w' hS => exec_fieldG _ _ 6 51 rfl g2 0 rfl (by kernel_rfl) _ (by first | rfl | omega)⟩) hHeld ?_
          try simp only [Act.put, List.setIfInBounds_toArray, List.set_cons_zero, List.set_cons_succ]
          refine take_d 83 (i := 1) (v := .slice (some ⟨ge, 0, none⟩) m2 cB) rfl (by kernel_rfl) (by kernel_rfl) (by kernel_rfl) (by kernel_rfl) (fun _ _ _ h => h) (Or.inl ⟨by kernel_rfl, fun w' hS => exec_load_one _ _ rfl g2 51 rfl _ Tryd.underlying23 rfl _ hS.cellB⟩) hHeld ?_
          try simp only [Act.put, List.setIfInBounds_toArray, List.set_cons_zero, List.set_cons_succ]
          refine take_d 84 (i := 2) (v := .int .i64 ((i : Int))) rfl (by kernel_rfl) (by kernel_rfl) (by kernel_rfl) (by kernel_rfl) (fun _ _ _ h => h) (Or.inl ⟨by kernel_rfl, fun w' hS => exec_move _ rfl (.int .i64 ((i : Int))) rfl⟩) hHeld ?_
          try simp only [Act.put, List.setIfInBounds_toArray, List.set_cons_zero, List.set_cons_succ]
          refine take_d 85 (i := 3) (v := .pointer (some ⟨g2, 51, none⟩)) rfl (by kernel_rfl) (by kernel_rfl) (by kernel_rfl) (by kernel_rfl) (fun _ _ _ h => h) (Or.inl ⟨by kernel_rfl, fun w' hS => exec_fieldG _ _ 6 51 rfl g2 0 rfl (by kernel_rfl) _ (by first | rfl | omega)⟩) hHeld ?_
          try simp only [Act.put, List.setIfInBounds_toArray, List.set_cons_zero, List.set_cons_succ]
          refine take_d 86 (i := 4) (v := .slice (some ⟨ge, 0, none⟩) m2 cB) rfl (by kernel_rfl) (by kernel_rfl) (by kernel_rfl) (by kernel_rfl) (fun _ _ _ h => h) (Or.inl ⟨by kernel_rfl, fun w' hS => exec_load_one _ _ rfl g2 51 rfl _ Tryd.underlying23 rfl _ hS.cellB⟩) hHeld ?_
          try simp only [Act.put, List.setIfInBounds_toArray, List.set_cons_zero, List.set_cons_succ]
          refine take_d 87 (i := 5) (v := .int .i64 ((i : Int))) rfl (by kernel_rfl) (by kernel_rfl) (by kernel_rfl) (by kernel_rfl) (fun _ _ _ h => h) (Or.inl ⟨by kernel_rfl, fun w' hS => exec_move _ rfl (.int .i64 ((i : Int))) rfl⟩) hHeld ?_
          try simp only [Act.put, List.setIfInBounds_toArray, List.set_cons_zero, List.set_cons_succ]
          refine take_d 88 (i := 6) (v := .pointer (some ⟨ge, i * 2, none⟩)) rfl (by kernel_rfl) (by kernel_rfl) (by kernel_rfl) (by kernel_rfl) (fun _ _ _ h => h) (Or.inl ⟨by kernel_rfl, fun w' hS => exec_indexG _ _ _ rfl _ m2 cB ge 0 2 i rfl rfl rfl (by omega) (by kernel_rfl) _ (by omega)⟩) hHeld ?_
          try simp only [Act.put, List.setIfInBounds_toArray, List.set_cons_zero, List.set_cons_succ]
          refine take_d 89 (i := 7) (v := .pointer (some ⟨ge, i * 2, none⟩)) rfl (by kernel_rfl) (by kernel_rfl) (by kernel_rfl) (by kernel_rfl) (fun _ _ _ h => h) (Or.inl ⟨by kernel_rfl, fun w' hS => exec_fieldG _ _ 0 0 rfl ge (i * 2) rfl (by kernel_rfl) _ (by first | rfl | omega)⟩) hHeld ?_
          try simp only [Act.put, List.setIfInBounds_toArray, List.set_cons_zero, List.set_cons_succ]
          refine wpAnyH_ready (rs := [8]) (by kernel_rfl) (by simp) (AllReadyH.cons rfl (fun K hK => ?_) AllReadyH.nil)
          rw [if_pos (by kernel_rfl)]
          refine wp_valueD 90 rfl (.int .i64 X) (exec_load_one _ _ rfl ge (i * 2) rfl _ Tryd.underlying3 rfl _ HNC.out) ?_
          refine hK.out _ _ hHeld (fun hHeld => ?_)
          clear hK K
          try simp only [Act.put, List.setIfInBounds_toArray, List.set_cons_zero, List.set_cons_succ]
          refine wpAnyH_ready (rs := [9]) (by kernel_rfl) (by simp) (AllReadyH.cons rfl (fun K hK => ?_) AllReadyH.nil)
          rw [if_pos (by kernel_rfl)]
          try go_simp
          refine (within_any X 16 _ HXI.out.1 HXI.out.2 (by omega)).mono ?_
          rintro e w91 ⟨rfl, rfl⟩
          refine hK.out _ _ hHeld (fun hHeld => ?_)
          clear hK K
          try simp only [Act.put, List.setIfInBounds_toArray, List.set_cons_zero, List.set_cons_succ]
          refine take_d 92 (i := 10) (v := .pointer (some ⟨ge, i * 2, none⟩)) rfl (by kernel_rfl) (by kernel_rfl) (by kernel_rfl) (by kernel_rfl) (fun _ _ _ h => h) (Or.inl ⟨by kernel_rfl, fun w' hS => exec_indexG _ _ _ rfl _ m2 cB ge 0 2 i rfl rfl rfl (by omega) (by kernel_rfl) _ (by omega)⟩) hHeld ?_
          try simp only [Act.put, List.setIfInBounds_toArray, List.set_cons_zero, List.set_cons_succ]
          refine take_d 93 (i := 11) (v := .pointer (some ⟨ge, i * 2, none⟩)) rfl (by kernel_rfl) (by kernel_rfl) (by kernel_rfl) (by kernel_rfl) (fun _ _ _ h => h) (Or.inl ⟨by kernel_rfl, fun w' hS => exec_fieldG _ _ 0 0 rfl ge (i * 2) rfl (by kernel_rfl) _ (by first | rfl | omega)⟩) hHeld ?_
          try simp only [Act.put, List.setIfInBounds_toArray, List.set_cons_zero, List.set_cons_succ]
          refine wpAnyH_ready (rs := [12]) (by kernel_rfl) (by simp) (AllReadyH.cons rfl (fun K hK => ?_) AllReadyH.nil)
          rw [if_pos (by kernel_rfl)]
          refine wp_store_bnumD _ _ rfl rfl HOB.out i (i * 2) (by rw [HLL.out]; exact him) rfl (within X 16) rfl rfl ?_
          intro ws12 hs12 hg12
          obtain ⟨csT, hcsT⟩ := HOB.out.typ
          replace HOT := hide (HOT.out.past hcsT (by decide) hg12)
          replace HOB := hide hs12
          replace HB := hide (HB.out.grown hg12 HB.out.size (by intro k hk; injection hk; omega))
          have HX := hide (hHeld.other hcsT (by decide) hg12)
          clear hs12 hg12 hcsT
          refine hK.out _ _ HX.out (fun hHeld => ?_)
          clear HX hK K
          try simp only [Act.put, List.setIfInBounds_toArray, List.set_cons_zero, List.set_cons_succ]
          refine wpAnyH_done (by kernel_rfl) ?_ _
          rw [HSET.out] at HOB
          go_wp2_with fail
          go_roundw
          case measure => simp [intOf]; omega
          case rel => exact ⟨i + 1, by go_num, by omega, HOB.out, HOT.out, hHeld, HB.out⟩
        · obtain rfl : i = m2 := by omega
          have him2 : ¬ (i : Int) < (i : Int) := by omega
          replace HOB := hide (show OwnBlbsR _ w.heap.size (.slice AB i cB) qn.blobs from by have := HOB.out; rw [normB_all lb i (by rw [HM2.out]; exact Nat.le_refl _), ← HNB.out] at this; exact this)
          rw [HQN.out] at HRIG HSML HBLB
          have HNBL := hide (show qn.blobs.length = i by rw [HNB.out, List.length_map, HM2.out])
          obtain ⟨b, hb, hb0⟩ := HSML.out
          have HAF := hide hb
          have hbl := (Msg.askF_some hb).2.1
          obtain ⟨nb, HNBB⟩ : ∃ n, Hid (b.length = n) := ⟨_, hide rfl⟩
          have hnb : 0 < nb ∧ nb ≤ 16384 := by have := HNBB.out; omega
          clear hb hb0 hbl HLL HNT HNB HM HM2 HLI HLX HLN HLT HLB HIT HSM HQN HQC
          have C1 := hide (fun (w' : World) (ht : TstsB w' w'.heap.size vT qn.tests) (hl : BlbsB w' w'.heap.size (.slice AB i cB) qn.blobs) (htab : Tab w' w'.heap.size) => (Ask_any qn vT (.slice AB i cB) w' (askIn_right HRIG.out) ht hl htab).mono (fun e w'' h => SayRes.u h))
          rw [HAF.out] at C1
          have hzr := HB.out.size
          have HTc := hide ((HT.out.below HB.out (Nat.le_refl _)).more hzr)
          go_wp2_with (refine wpList_rq_all _ rfl rfl rfl HQ.out ?_)
          refine (C1.out _ HOT.out.reads (HOB.out.toB.reads hzr) HTc.out).mono ?_
          rintro e w5 ⟨x7, rfl, hx7, hy7, hb5⟩
          have HX := hide (show Bs w5 w5.heap.size x7 b from hx7)
          have HYB := hide (show Bytes b from hy7)
          replace HQ := hide (HQ.out.below hb5 HQ.out.lt)
          replace HOT := hide (HOT.out.keptB hb5)
          replace HOB := hide (HOB.out.keptB hb5)
          replace HTc := hide ((HTc.out.below hb5 (Nat.le_refl _)).more hb5.size)
          replace HB := hide (HB.out.trans (hb5.mono hzr))
          have hXo := HX.out
          obtain ⟨A7, c7, rfl, hc7, hcm, _⟩ := hXo.open_
          unfold maxLen at hcm
          rw [HNBB.out] at hc7 HX ⊢
          clear hx7 hy7 hb5 C1 hXo
          have HTT := hide HOT.out.reads
          have HBB := hide (HOB.out.toB.reads HB.out.size)
          have D1 := hide (fun (w' : World) (hl : Bs w' w'.heap.size (.slice A7 nb c7) b) (ht : Tab w' w'.heap.size) => (Asked_any (.slice A7 nb c7) b w' hl HYB.out (by have := HNBB.out; omega) ht).mono (fun e w'' h => AskedRes.u h))
          rw [(Msg.askedP_iff HYB.out qn).2 ⟨HRIG.out, HAF.out⟩] at D1
          clear HOT HOB
          go_wp2_with fail
          refine (D1.out w5 HX.out HTc.out).mono ?_
          rintro e w6a ⟨t21, u21, rfl, hk21, ht21, hx21, hb21⟩
          simp only [Option.getD_some, Option.isSome_some, Option.getD_none, Option.isSome_none] at hk21 ht21 hx21 ⊢
          have HK21 := hide hk21
          have HT21 := hide ht21
          have HU21 := hide hx21
          have HO21 := hide (And.intro ht21.one hx21.one_)
          replace HX := hide ((HX.out.below hb21 (Nat.le_refl _)).more hb21.size)
          replace HTc := hide ((HTc.out.below hb21 (Nat.le_refl _)).more hb21.size)
          replace HQ := hide (HQ.out.below hb21 HQ.out.lt)
          replace HTT := hide ((HTT.out.below hb21 (Nat.le_refl _)).more hb21.size)
          replace HBB := hide ((HBB.out.below hb21 (Nat.le_refl _)).more hb21.size)
          replace HB := hide (HB.out.trans (hb21.mono HB.out.size))
          clear hk21 ht21 hx21 hb21
          obtain ⟨g21, HG21⟩ : ∃ x, Hid (w6a.heap.size = x) := ⟨_, hide rfl⟩
          go_upto_region 18 with (first
            | (refine wpList_rq_zero rfl rfl ?_; intro w6b hbk21 hw21 hs21; rw [HG21.out] at hbk21; try rw [HG21.out]; have H9 := hide hbk21; have HBa := hide hw21; clear hbk21 hw21)
            | (refine wpList_rq_putAll _ _ rfl rfl rfl H9.out qn t21 u21 rfl HK21.out HO21.out.1 HO21.out.2 ?_; intro w6 hbk21 hg21 hs221; replace H9 := hide hbk21; have HBb := hide (HBa.out.grown hg21 (by have := HBa.out.size; omega) (by intro k hk; injection hk; have := HG21.out; omega)); clear hbk21 hg21)
            | go_skip
            | (refine wpList_rq_all _ rfl rfl rfl H9.out ?_)
            | (refine wpList_rq_all _ rfl rfl rfl HQ.out ?_))
          have hbb21 := HBb.out
          replace HX := hide ((HX.out.below hbb21 (Nat.le_refl _)).more hbb21.size)
          replace HTc := hide ((HTc.out.below hbb21 (Nat.le_refl _)).more hbb21.size)
          replace HQ := hide (HQ.out.below hbb21 HQ.out.lt)
          replace HTT := hide ((HTT.out.below hbb21 (Nat.le_refl _)).more hbb21.size)
          replace HBB := hide ((HBB.out.below hbb21 (Nat.le_refl _)).more hbb21.size)
          replace HT21 := hide ((HT21.out.below hbb21 (Nat.le_refl _)).more hbb21.size)
          replace HU21 := hide ((HU21.out.below hbb21 (Nat.le_refl _)).more hbb21.size)
          replace HB := hide (HB.out.trans (hbb21.mono HB.out.size))
          clear hbb21 HBa HBb hs21 hs221
          go_wp2_with (first
            | go_skip
            | (refine wpList_rq_all _ rfl rfl rfl H9.out ?_)
            | (refine wpList_rq_all _ rfl rfl rfl HQ.out ?_))
          refine (keep_request qn qn _ _ _ _ w6 HK21.out HQ.out.keys HT21.out HU21.out HTT.out HBB.out).mono ?_
          rintro e w7 ⟨rfl, hb7⟩
          rw [(reqEq_iff qn qn).2 rfl]
          replace HX := hide ((HX.out.below hb7 (Nat.le_refl _)).more hb7.size)
          replace HTc := hide ((HTc.out.below hb7 (Nat.le_refl _)).more hb7.size)
          replace HQ := hide (HQ.out.below hb7 HQ.out.lt)
          replace HTT := hide ((HTT.out.below hb7 (Nat.le_refl _)).more hb7.size)
          replace HBB := hide ((HBB.out.below hb7 (Nat.le_refl _)).more hb7.size)
          replace HB := hide (HB.out.trans (hb7.mono HB.out.size))
          clear hb7 H9 HU21 HT21 HK21 HO21 D1
          have hcut := Msg.asked_cut HRIG.out HAF.out HYB.out (k := nb - 1) (by rw [HNBB.out]; omega)
          have HXK := hide (show Bs w7 w7.heap.size (.slice A7 (nb - 1) c7) (b.take (nb - 1)) from Bs.take HX.out (nb - 1) (by rw [HNBB.out]; omega))
          have D2 := hide (fun (w' : World) (hl : Bs w' w'.heap.size (.slice A7 (nb - 1) c7) (b.take (nb - 1))) (ht : Tab w' w'.heap.size) => (Asked_any (.slice A7 (nb - 1) c7) (b.take (nb - 1)) w' hl (fun z hz => HYB.out z (List.mem_of_mem_take hz)) (by rw [List.length_take]; omega) ht).mono (fun e w'' h => AskedRes.u h))
          rw [hcut] at D2
          have hkc : nb - 1 ≤ c7 := by omega
          clear hcut
          go_wp2_with (first
            | (refine wpList_val rfl (exec_slice_to 26 5 1 Tryd.underlying26 (by kernel_rfl) _ _ rfl A7 nb c7 (nb - 1) rfl (show Value.int .i64 ((nb : Int) - 1) = .int .i64 ((nb - 1 : Nat) : Int) by congr 1; omega) hkc) ?_))
          refine (D2.out w7 HXK.out HTc.out).mono ?_
          rintro e w8a ⟨t22, u22, rfl, hk22, ht22, hx22, hb22⟩
          simp only [Option.getD_some, Option.isSome_some, Option.getD_none, Option.isSome_none] at hk22 ht22 hx22 ⊢
          have HK22 := hide hk22
          have HT22 := hide ht22
          have HU22 := hide hx22
          have HO22 := hide (And.intro ht22.one hx22.one_)
          replace HX := hide ((HX.out.below hb22 (Nat.le_refl _)).more hb22.size)
          replace HTc := hide ((HTc.out.below hb22 (Nat.le_refl _)).more hb22.size)
          replace HQ := hide (HQ.out.below hb22 HQ.out.lt)
          replace HTT := hide ((HTT.out.below hb22 (Nat.le_refl _)).more hb22.size)
          replace HBB := hide ((HBB.out.below hb22 (Nat.le_refl _)).more hb22.size)
          replace HB := hide (HB.out.trans (hb22.mono HB.out.size))
          clear hk22 ht22 hx22 hb22
          obtain ⟨g22, HG22⟩ : ∃ x, Hid (w8a.heap.size = x) := ⟨_, hide rfl⟩
          go_wp2_with (first
            | (refine wpList_rq_zero rfl rfl ?_; intro w8b hbk22 hw22 hs22; rw [HG22.out] at hbk22; try rw [HG22.out]; have H11 := hide hbk22; have HBa := hide hw22; clear hbk22 hw22)
            | (refine wpList_rq_putAll _ _ rfl rfl rfl H11.out req0 t22 u22 rfl HK22.out HO22.out.1 HO22.out.2 ?_; intro w8 hbk22 hg22 hs222; replace H11 := hide hbk22; have HBb := hide (HBa.out.grown hg22 (by have := HBa.out.size; omega) (by intro k hk; injection hk; have := HG22.out; omega)); clear hbk22 hg22))
          have hbb22 := HBb.out
          replace HX := hide ((HX.out.below hbb22 (Nat.le_refl _)).more hbb22.size)
          replace HTc := hide ((HTc.out.below hbb22 (Nat.le_refl _)).more hbb22.size)
          replace HQ := hide (HQ.out.below hbb22 HQ.out.lt)
          replace HTT := hide ((HTT.out.below hbb22 (Nat.le_refl _)).more hbb22.size)
          replace HBB := hide ((HBB.out.below hbb22 (Nat.le_refl _)).more hbb22.size)
          replace HT22 := hide ((HT22.out.below hbb22 (Nat.le_refl _)).more hbb22.size)
          replace HU22 := hide ((HU22.out.below hbb22 (Nat.le_refl _)).more hbb22.size)
          replace HB := hide (HB.out.trans (hbb22.mono HB.out.size))
          clear hbb22 HBa HBb hs22 hs222
          clear D2 HXK H11 HU22 HT22 HK22 HO22
          have HB0 := hide (show Bytes [0] from by intro z hz; simp at hz; subst hz; omega)
          have hmore := Msg.asked_more HRIG.out HAF.out (r := [0]) (fun z hz => (List.mem_append.1 hz).elim (HYB.out z) (HB0.out z)) (by simp)
          have D3 := hide (fun (w' : World) (v : Value) (hl : Bs w' w'.heap.size v (b ++ [0])) (ht : Tab w' w'.heap.size) => (Asked_any v (b ++ [0]) w' hl (fun z hz => (List.mem_append.1 hz).elim (HYB.out z) (HB0.out z)) (by rw [List.length_append, HNBB.out, List.length_singleton]; omega) ht).mono (fun e w'' h => AskedRes.u h))
          rw [hmore] at D3
          clear hmore
          go_wp2_with fail
          refine (copy_B (.slice A7 nb c7) b w8 w8.heap.size HX.out HYB.out (by rw [HNBB.out]; omega)).mono ?_
          rintro e w9 ⟨v9, rfl, ho9, hb9⟩
          have HO9 := hide ho9
          have HB9 := hide hb9
          have hz9 := hb9.size
          clear ho9 hb9
          go_wp2_with (first
            | (refine wpList_lit1 rfl _ rfl 0 rfl ?_; intro g10 w10 bk10 hg10 hb10; have HL10 := hide ((RowB.of_blk (base := 0) bk10 (by omega) HB0.out (by unfold maxLen; simp)).reads); replace HO9 := hide (HO9.out.keptB hb10); replace HB9 := hide (HB9.out.trans (hb10.mono hz9)); clear bk10 hg10 hb10)
            | (at_builtin; refine wpList_append_B rfl _ _ rfl w8.heap.size v9 b rfl HO9.out _ _ [0] rfl HL10.out HB0.out (by rw [HNBB.out, List.length_singleton]; omega) HB9.out.size ?_; intro v11 w11 ho11 hg11; have HO11 := hide ho11; have HB11 := hide (HB9.out.grown hg11 HB9.out.size (fun k hk => (HO9.out.base_ k hk).1)); clear ho11 hg11))
          have hbb11 := HB11.out
          replace HX := hide ((HX.out.below hbb11 (Nat.le_refl _)).more hbb11.size)
          replace HTc := hide ((HTc.out.below hbb11 (Nat.le_refl _)).more hbb11.size)
          replace HQ := hide (HQ.out.below hbb11 HQ.out.lt)
          replace HTT := hide ((HTT.out.below hbb11 (Nat.le_refl _)).more hbb11.size)
          replace HBB := hide ((HBB.out.below hbb11 (Nat.le_refl _)).more hbb11.size)
          replace HB := hide (HB.out.trans (hbb11.mono HB.out.size))
          clear hbb11 HB11 HB9 HO9
          refine (D3.out w11 v11 HO11.out.reads HTc.out).mono ?_
          rintro e w12a ⟨t23, u23, rfl, hk23, ht23, hx23, hb23⟩
          simp only [Option.getD_some, Option.isSome_some, Option.getD_none, Option.isSome_none] at hk23 ht23 hx23 ⊢
          have HK23 := hide hk23
          have HT23 := hide ht23
          have HU23 := hide hx23
          have HO23 := hide (And.intro ht23.one hx23.one_)
          replace HX := hide ((HX.out.below hb23 (Nat.le_refl _)).more hb23.size)
          replace HTc := hide ((HTc.out.below hb23 (Nat.le_refl _)).more hb23.size)
          replace HQ := hide (HQ.out.below hb23 HQ.out.lt)
          replace HTT := hide ((HTT.out.below hb23 (Nat.le_refl _)).more hb23.size)
          replace HBB := hide ((HBB.out.below hb23 (Nat.le_refl _)).more hb23.size)
          replace HB := hide (HB.out.trans (hb23.mono HB.out.size))
          clear hk23 ht23 hx23 hb23
          obtain ⟨g23, HG23⟩ : ∃ x, Hid (w12a.heap.size = x) := ⟨_, hide rfl⟩
          go_upto_region 22 with (first
            | (refine wpList_rq_zero rfl rfl ?_; intro w12b hbk23 hw23 hs23; rw [HG23.out] at hbk23; try rw [HG23.out]; have H13 := hide hbk23; have HBa := hide hw23; clear hbk23 hw23)
            | (refine wpList_rq_putAll _ _ rfl rfl rfl H13.out req0 t23 u23 rfl HK23.out HO23.out.1 HO23.out.2 ?_; intro w12 hbk23 hg23 hs223; replace H13 := hide hbk23; have HBb := hide (HBa.out.grown hg23 (by have := HBa.out.size; omega) (by intro k hk; injection hk; have := HG23.out; omega)); clear hbk23 hg23))
          have hbb23 := HBb.out
          replace HX := hide ((HX.out.below hbb23 (Nat.le_refl _)).more hbb23.size)
          replace HTc := hide ((HTc.out.below hbb23 (Nat.le_refl _)).more hbb23.size)
          replace HQ := hide (HQ.out.below hbb23 HQ.out.lt)
          replace HTT := hide ((HTT.out.below hbb23 (Nat.le_refl _)).more hbb23.size)
          replace HBB := hide ((HBB.out.below hbb23 (Nat.le_refl _)).more hbb23.size)
          replace HT23 := hide ((HT23.out.below hbb23 (Nat.le_refl _)).more hbb23.size)
          replace HU23 := hide ((HU23.out.below hbb23 (Nat.le_refl _)).more hbb23.size)
          replace HB := hide (HB.out.trans (hbb23.mono HB.out.size))
          clear hbb23 HBa HBb hs23 hs223
          clear D3 HO11 H13 HU23 HT23 HK23 HO23 HX
          have hRB := HRIG.out.blobs
          have HS0 := hide (show Msg.RightS 0 qn.blobs from ⟨by omega, hRB, fun h => absurd rfl h⟩)
          obtain ⟨c, hc, _⟩ := Msg.say_small HS0.out HBLB.out (by rw [HNBL.out]; omega)
          have HC := hide hc
          have hcl := (Msg.sayF_some hc).2.1
          have E1 := hide (fun (w' : World) (hl : BlbsB w' w'.heap.size (.slice AB i cB) qn.blobs) (ht : Tab w' w'.heap.size) => (Say_any 0 (.slice AB i cB) qn.blobs w' hl (fun x hx => ⟨(hRB.2 x hx).2.1, by have := (hRB.2 x hx).2.2; omega⟩) (fun x hx => by have := (hRB.2 x hx).1; omega) (by omega) ht).mono (fun e w'' h => SayRes.u h))
          rw [HC.out] at E1
          clear hRB hc
          go_wp2_with (first
            | (refine wpList_rq_blobs _ rfl rfl rfl HQ.out ?_)
            | (refine wpList_st_build 25 _ rfl rfl [Value.int .i64 0, .slice AB i cB] (built_replyB AB i cB) ?_))
          refine (E1.out _ HBB.out HTc.out).mono ?_
          rintro e w13 ⟨x15, rfl, hx15, hy15, hb15⟩
          have HX15 := hide (show Bs w13 w13.heap.size x15 c from hx15)
          have HY15 := hide (show Bytes c from hy15)
          simp only [Option.isSome_some]
          replace HTc := hide ((HTc.out.below hb15 (Nat.le_refl _)).more hb15.size)
          replace HQ := hide (HQ.out.below hb15 HQ.out.lt)
          replace HBB := hide ((HBB.out.below hb15 (Nat.le_refl _)).more hb15.size)
          replace HB := hide (HB.out.trans (hb15.mono HB.out.size))
          clear hx15 hy15 hb15 E1
          have F1 := hide (fun (w' : World) (hl : Bs w' w'.heap.size x15 c) (ht : Tab w' w'.heap.size) => (Said_any x15 c w' hl HY15.out (by omega) ht).mono (fun e w'' h => SaidRes.u h))
          rw [(Msg.saidP_iff HY15.out 0 qn.blobs).2 ⟨HS0.out, HC.out⟩] at F1
          go_wp2_with fail
          refine (F1.out w13 HX15.out HTc.out).mono ?_
          rintro e w14a ⟨u24, rfl, hx24, hb24⟩
          simp only [Option.getD_some, Option.isSome_some, Option.getD_none, Option.isSome_none] at hx24 ⊢
          obtain ⟨A24, c24, rfl, _, _, _⟩ := hx24.open_
          obtain ⟨n24, HN24⟩ : ∃ x, Hid (qn.blobs.length = x) := ⟨_, hide rfl⟩
          simp only [HN24.out] at hx24 ⊢
          have HU24 := hide hx24
          replace HTc := hide ((HTc.out.below hb24 (Nat.le_refl _)).more hb24.size)
          replace HQ := hide (HQ.out.below hb24 HQ.out.lt)
          replace HBB := hide ((HBB.out.below hb24 (Nat.le_refl _)).more hb24.size)
          replace HB := hide (HB.out.trans (hb24.mono HB.out.size))
          clear hx24 hb24
          obtain ⟨g24, HG24⟩ : ∃ x, Hid (w14a.heap.size = x) := ⟨_, hide rfl⟩
          go_upto_region 24 with (first
            | (refine wpList_alloc_blk rfl 25 rfl _ zero_reply ?_; intro w14b hbk24 hw24 hs24; rw [HG24.out] at hbk24; try rw [HG24.out]; have H17 := hide hbk24; have HBa := hide hw24; clear hbk24 hw24)
            | (refine wpList_st_putAll _ _ _ rfl rfl rfl H17.out [Value.int .i64 0, .slice A24 n24 c24] rfl rfl size_reply (reply_one 0 A24 n24 c24) ?_; intro w14 hbk24 hg24 ht24; replace H17 := hide hbk24; have HBb := hide (HBa.out.grown hg24 (by have := HBa.out.size; omega) (by intro k hk; injection hk; have := HG24.out; omega)); clear hbk24 hg24))
          have hbb24 := HBb.out
          replace HTc := hide ((HTc.out.below hbb24 (Nat.le_refl _)).more hbb24.size)
          replace HQ := hide (HQ.out.below hbb24 HQ.out.lt)
          replace HBB := hide ((HBB.out.below hbb24 (Nat.le_refl _)).more hbb24.size)
          replace HU24 := hide ((HU24.out.below hbb24 (Nat.le_refl _)).more hbb24.size)
          replace HB := hide (HB.out.trans (hbb24.mono HB.out.size))
          clear hbb24 HBa HBb hs24 ht24
          clear F1 HX15 HY15
          have hwr := within_range er 17 (by omega)
          have HWI := hide (within_any er 17 w14 HER.out.1 HER.out.2 (by omega))
          obtain ⟨ee, HEE⟩ : ∃ x, Hid (within er 17 = x) := ⟨_, hide rfl⟩
          rw [HEE.out] at hwr HWI
          go_wp2_with fail
          refine HWI.out.mono ?_
          rintro e w15 ⟨rfl, rfl⟩
          have HS1 := hide (show Msg.RightS (1 + ee) [] from ⟨by omega, ⟨by simp, fun x hx => by cases hx⟩, fun _ => rfl⟩)
          obtain ⟨d, hd, _⟩ := Msg.say_small HS1.out (fun x hx => by cases hx) (by simp)
          have HD := hide hd
          have hdl := (Msg.sayF_some hd).2.1
          have E2 := hide (fun (w' : World) (ht : Tab w' w'.heap.size) => (Say_any (1 + ee) (.slice none 0 0) [] w' (BlbsB.nil_ _ _) (fun x hx => by cases hx) (fun x hx => by cases hx) (by omega) ht).mono (fun e w'' h => SayRes.u h))
          rw [HD.out] at E2
          clear hd HWI
          go_wp2_with (first
            | (refine wpList_st_build 25 _ rfl rfl [Value.int .i64 (1 + ee), .slice none 0 0] (built_replyE (1 + ee)) ?_))
          refine (E2.out _ HTc.out).mono ?_
          rintro e w16 ⟨x20, rfl, hx20, hy20, hb20⟩
          have HX20 := hide (show Bs w16 w16.heap.size x20 d from hx20)
          have HY20 := hide (show Bytes d from hy20)
          simp only [Option.isSome_some]
          replace HTc := hide ((HTc.out.below hb20 (Nat.le_refl _)).more hb20.size)
          replace HQ := hide (HQ.out.below hb20 HQ.out.lt)
          replace HBB := hide ((HBB.out.below hb20 (Nat.le_refl _)).more hb20.size)
          replace H17 := hide (H17.out.below hb20 H17.out.lt)
          replace HU24 := hide ((HU24.out.below hb20 (Nat.le_refl _)).more hb20.size)
          replace HB := hide (HB.out.trans (hb20.mono HB.out.size))
          clear hx20 hy20 hb20 E2
          have F2 := hide (fun (w' : World) (hl : Bs w' w'.heap.size x20 d) (ht : Tab w' w'.heap.size) => (Said_any x20 d w' hl HY20.out (by omega) ht).mono (fun e w'' h => SaidRes.u h))
          rw [(Msg.saidP_iff HY20.out (1 + ee) []).2 ⟨HS1.out, HD.out⟩] at F2
          go_wp2_with fail
          refine (F2.out w16 HX20.out HTc.out).mono ?_
          rintro e w17a ⟨u25, rfl, hx25, hb25⟩
          simp only [Option.getD_some, Option.isSome_some, Option.getD_none, Option.isSome_none] at hx25 ⊢
          obtain ⟨A25, c25, rfl, _, _, _⟩ := hx25.open_
          obtain ⟨n25, HN25⟩ : ∃ x, Hid (([] : List Msg.Blb).length = x) := ⟨_, hide rfl⟩
          simp only [HN25.out] at hx25 ⊢
          have HU25 := hide hx25
          replace HTc := hide ((HTc.out.below hb25 (Nat.le_refl _)).more hb25.size)
          replace HQ := hide (HQ.out.below hb25 HQ.out.lt)
          replace HBB := hide ((HBB.out.below hb25 (Nat.le_refl _)).more hb25.size)
          replace H17 := hide (H17.out.below hb25 H17.out.lt)
          replace HU24 := hide ((HU24.out.below hb25 (Nat.le_refl _)).more hb25.size)
          replace HB := hide (HB.out.trans (hb25.mono HB.out.size))
          clear hx25 hb25
          obtain ⟨g25, HG25⟩ : ∃ x, Hid (w17a.heap.size = x) := ⟨_, hide rfl⟩
          go_upto_region 27 with (first
            | (refine wpList_alloc_blk rfl 25 rfl _ zero_reply ?_; intro w17b hbk25 hw25 hs25; rw [HG25.out] at hbk25; try rw [HG25.out]; have H22 := hide hbk25; have HBa := hide hw25; clear hbk25 hw25)
            | (refine wpList_st_putAll _ _ _ rfl rfl rfl H22.out [Value.int .i64 (1 + ee), .slice A25 n25 c25] rfl rfl size_reply (reply_one (1 + ee) A25 n25 c25) ?_; intro w17 hbk25 hg25 ht25; replace H22 := hide hbk25; have HBb := hide (HBa.out.grown hg25 (by have := HBa.out.size; omega) (by intro k hk; injection hk; have := HG25.out; omega)); clear hbk25 hg25))
          have hbb25 := HBb.out
          replace HTc := hide ((HTc.out.below hbb25 (Nat.le_refl _)).more hbb25.size)
          replace HQ := hide (HQ.out.below hbb25 HQ.out.lt)
          replace HBB := hide ((HBB.out.below hbb25 (Nat.le_refl _)).more hbb25.size)
          replace H17 := hide (H17.out.below hbb25 H17.out.lt)
          replace HU24 := hide ((HU24.out.below hbb25 (Nat.le_refl _)).more hbb25.size)
          replace HU25 := hide ((HU25.out.below hbb25 (Nat.le_refl _)).more hbb25.size)
          replace HB := hide (HB.out.trans (hbb25.mono HB.out.size))
          clear hbb25 HBa HBb hs25 ht25
          clear F2 HX20 HY20
          obtain rfl : n25 = 0 := HN25.out.symm
          have f1 : ((1 + ee : Int) == 1 + ee) = true := by simp
          go_wp2_with (first
            | go_skip
            | (refine wpList_st_get 22 _ rfl 0 rfl rfl H17.out _ Tryd.underlying22 rfl _ rfl ?_)
            | (refine wpList_st_get 22 _ rfl 0 rfl rfl H22.out _ Tryd.underlying22 rfl _ rfl ?_)
            | (refine wpList_st_get 23 _ rfl 1 rfl rfl H17.out _ Tryd.underlying23 rfl _ rfl ?_)
            | (refine wpList_st_get 23 _ rfl 1 rfl rfl H22.out _ Tryd.underlying23 rfl _ rfl ?_)
            | (refine wpList_rq_blobs _ rfl rfl rfl HQ.out ?_))
          refine (keep_blobs _ _ qn.blobs qn.blobs w17 w17.heap.size (Nat.le_refl _) HU24.out HBB.out).mono ?_
          rintro e w18 ⟨rfl, hb18⟩
          rw [decide_eq_true rfl]
          replace HTc := hide ((HTc.out.below hb18 (Nat.le_refl _)).more hb18.size)
          replace H22 := hide (H22.out.below hb18 H22.out.lt)
          replace HB := hide (HB.out.trans (hb18.mono HB.out.size))
          clear hb18 H17 HU24 HBB HQ
          go_wp2_with (first
            | go_skip
            | (refine wpList_st_get 22 _ rfl 0 rfl rfl H22.out _ Tryd.underlying22 rfl _ rfl ?_)
            | (refine wpList_st_get 23 _ rfl 1 rfl rfl H22.out _ Tryd.underlying23 rfl _ rfl ?_))
          refine (wakes17 w18 HTc.out).mono ?_
          rintro e w19 ⟨rfl, hb19⟩
          replace HB := hide (HB.out.trans (hb19.mono HB.out.size))
          clear hb19
          go_wp2_with go_skip
          go_ret
          exact ⟨rfl, HB.out⟩

set_option maxRecDepth 100000 in
theorem lifted (os : Os) (started : os.Started) (H : Type) (enc : TypeId × Value → H) :
    ReturnsInHanded {} Tryd.checked os 7 .any (fun w args => (Rows.msgsBackSpec.pre enc Tryd.prog Tryd.f7 [] false w args ∧ laidMetH Tryd.prog laidD w) ∧ sizedMet enc Tryd.prog Tryd.f7 (OpenSpec.ofChange Rows.msgsBackSpec) false w args)
      (Rows.msgsBackSpec.post enc Tryd.prog Tryd.f7 false true false false) := by
  refine returnsInHanded_of_change_and (C := Tryd.checked) (X := fun w _ => laidMetH Tryd.prog laidD w) (fun _ _ _ hh h => h.of_heap hh) own started (by kernel_rfl) Tryd.func7
    (ChangeSpec.witness_shaped (enc := enc) (C := Tryd.checked) (os := os) (X := fun w _ => laidMetH Tryd.prog laidD w) false (World.doorLaid Tryd.prog doorSteps os) #[.agg (reqCells req0 (.slice none 0 0) (.slice none 0 0)).toArray, .int .i64 0] 8 rfl (World.shaped_of_RefB (by kernel_rfl) (by kernel_rfl)) (by kernel_rfl) (by kernel_rfl) (by kernel_rfl) (door_met os _)) ?_
  intro W base args ds gs before hval0 hW _ _ hL _
  have hT := tab_of hL
  have hval : ∀ (j : Nat) t v, Tryd.f7.params[j]? = some t → args[j]? = some v → Value.okWide Tryd.prog W .any base t v := hval0
  have hW' := hW
  obtain ⟨p, q, hA0, hV, rfl, hfz, hnd⟩ := hW
  have hA : DataW.TrodAll enc Tryd.prog W 0 (fun _ => true) true Tryd.f7.params.toList args.toList ds p := hA0
  rw [Tryd.params7] at hA hval
  obtain ⟨v0, vs0, d0, ds0, p0, q0, hargs, rfl, rfl, h0, r0⟩ := trodAll_cons hA
  obtain ⟨v1, vs1, d1, ds1, p1, q1, rfl, rfl, rfl, h1, r1⟩ := trodAll_cons r0
  obtain ⟨rfl, rfl, rfl⟩ := trodAll_nil r1
  obtain rfl : args = #[v0, v1] := by cases args; simp_all
  obtain ⟨rfl, rfl⟩ := trodVars_none hV
  have k0 := h0
  have lt0 : ∀ x ∈ p0, x.block < W.heap.size := by obtain ⟨m, hm⟩ := k0; exact DataW.trod_lt m _ _ _ hm
  obtain ⟨z0, l0, rfl, w0, b0⟩ := read_req (hval 0 31 v0 rfl rfl) h0
  obtain ⟨a1, rfl, rfl, rfl, wf1⟩ := open_int Tryd.underlying3 (hval 1 3 v1 rfl rfl) h1
  clear hA0 hval0
  refine (walk W hT z0 l0 w0 b0 a1 (in64_wf wf1)).mono fun e W' ⟨he, bel⟩ => ?_
  subst he
  exact ⟨_, rfl, _, _, _, [], _, [], hW', trodAll_mk1 (shut_bool Tryd.underlying4 _), (trodAll_cons_mk (Below.trod laidOut (by kernel_rfl) (of_decide_eq_true (by kernel_rfl)) k0 bel lt0) (trodAll_cons_mk (shut_int Tryd.underlying3 wf1) trodAll_mk0)), rfl, bel.frame _, fun h => by cases h⟩

theorem over : Rows.msgsBackRow.holds Tryd.pinned (OpenSpec.ofChange Rows.msgsBackSpec) :=
  OpenClaim.holds_of_wide 7 Tryd.f7 rfl rfl rfl rfl rfl rfl rfl ⟨rfl, rfl, rfl, rfl, rfl⟩ rfl rfl rfl rfl rfl (by kernel_rfl) Tryd.func7 (by kernel_rfl)
    (of_decide_eq_true (by kernel_rfl)) (by unfold Func.isWrapper; rw [if_neg (of_decide_eq_false (by kernel_rfl))]; exact ⟨rfl, rfl⟩)
    (fun os started H enc _ => lifted os started H enc)

theorem proved : Rows.MsgsBackCardSaid :=
  Claim7.holds_tied_plain_at .later [] Rows.msgsBackCard.laidKinds true Rows.msgsBackCard.stood.harness Rows.msgsBackCard.stood.looks
    over (fun _ h => by cases h) (by kernel_rfl) (fun _ h => by cases h) msgsBack_row_tie rfl ⟨rfl, rfl⟩ (by kernel_rfl) rfl
    (fun f fn hf hfn => by
      obtain rfl : f = 7 := Option.some.inj ((show Tryd.prog.funcNamed "aumbry/aumbrylaw17.MsgsBack" = some 7 by kernel_rfl).symm.trans hf) |>.symm
      obtain rfl : fn = Tryd.f7 := (Option.some.inj (Tryd.func7.symm.trans hfn)).symm
      exact ⟨by kernel_rfl, fun j t ht => by
        have ht' : Tryd.f7.params[j]? = some t := ht
        rw [Tryd.params7] at ht'
        have hm : t ∈ [31, 3] := by simpa using Array.mem_of_getElem? ht'
        have hall : ([31, 3].all fun u => !Tryd.prog.wantsStandIn u) = true := by kernel_rfl
        exact (show Tryd.prog.wantsStandIn t = false by simpa using List.all_eq_true.1 hall t hm)⟩)
    (by kernel_rfl)
end Go.Proofs.YtfinfkodjkfibaaDoor.LawMsgsBack
