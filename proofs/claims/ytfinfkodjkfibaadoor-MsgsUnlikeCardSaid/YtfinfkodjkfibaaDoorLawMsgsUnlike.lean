/-
MsgsUnlike holds: unlike requests have unlike bytes, like ones one; cut anywhere they are none. Conditions: none but the row's own.
-/
import Derived.Test.YtfinfkodjkfibaaDoorMsgAsked
import Derived.Test.YtfinfkodjkfibaaDoorUnlikeRq
import Derived.Test.YtfinfkodjkfibaaDoorKeepAll
import Derived.Test.YtfinfkodjkfibaaDoorWakes17
import Derived.Test.YtfinfkodjkfibaaDoorSliceFrom
import Derived.Test.YtfinfkodjkfibaaDoorTied
import Derived.Deep.CutRange
namespace Go.Proofs.YtfinfkodjkfibaaDoor.LawMsgsUnlike
open Go Go.RowKit Go.ChangeShapes Go.WideShapes Go.ChangeAt
set_option linter.unusedVariables false
set_option linter.unusedSimpArgs false
set_option maxRecDepth 100000
theorem World.grownBy.drew_ (w : World) (r : Option Nat) : w.grownBy w.drew r := ⟨rfl, rfl, rfl, Nat.le_refl _, fun _ _ _ => rfl⟩
theorem World.grownBy.trans {a b c : World} {r : Option Nat} (h : a.grownBy b r) (h' : b.grownBy c r) : a.grownBy c r :=
  ⟨h'.os.trans h.os, h'.tape.trans h.tape, h'.output.trans h.output, Nat.le_trans h.size h'.size, fun k hk hne => by rw [h'.block k (Nat.lt_of_lt_of_le hk h.size) hne, h.block k hk hne]⟩

set_option maxHeartbeats 16000000 in
theorem walk (w : World) (ht : Tab w w.heap.size) (ra : Msg.Req) (ua : Value × Value) (hina : InR ra) (hua : TstsB w w.heap.size ua.1 ra.tests ∧ BlbsB w w.heap.size ua.2 ra.blobs) (rb : Msg.Req) (ub : Value × Value) (hinb : InR rb) (hub : TstsB w w.heap.size ub.1 rb.tests ∧ BlbsB w w.heap.size ub.2 rb.blobs) (tw : Bool) (at_ : Int) (hat : In64 at_) :
    Calls Tryd.prog 5 #[.agg (reqCells ra ua.1 ua.2).toArray, .agg (reqCells rb ub.1 ub.2).toArray, .bool tw, .int .i64 at_] w fun e w' => e = .returned (.bool true) ∧ Below w.heap.size w w' := by
  obtain ⟨uta, uba⟩ := ua
  obtain ⟨utb, ubb⟩ := ub
  simp only at hua hub ⊢
  have HT := hide ht
  have HAT := hide hat
  have HTa := hide hua.1
  have HUa := hide hua.2
  have HKa := hide hina.keys
  have HOa := hide (And.intro hua.1.one hua.2.one_)
  have HNa := hide (And.intro hua.1.noB.2 hua.2.noB.2)
  have HRa := hide (normU_right hina)
  have HXa := hide (normU_small hina)
  have HMa := hide (smallQ hina)
  obtain ⟨qa, HQa⟩ : ∃ x, Hid (cutR ra = x) := ⟨_, hide rfl⟩
  have HEa := hide (fun (vt vb : Value) => show reqCells ra vt vb = reqCells qa vt vb by rw [← HQa.out]; rfl)
  have HFa := hide (show qa.index = ra.index ∧ qa.secret = ra.secret ∧ qa.enable = ra.enable by rw [← HQa.out]; exact ⟨rfl, rfl, rfl⟩)
  rw [HQa.out] at HRa HXa HMa
  have HKqa := hide HMa.out.keys
  have HTb := hide hub.1
  have HUb := hide hub.2
  have HKb := hide hinb.keys
  have HOb := hide (And.intro hub.1.one hub.2.one_)
  have HNb := hide (And.intro hub.1.noB.2 hub.2.noB.2)
  have HRb := hide (normU_right hinb)
  have HXb := hide (normU_small hinb)
  have HMb := hide (smallQ hinb)
  obtain ⟨qb, HQb⟩ : ∃ x, Hid (cutR rb = x) := ⟨_, hide rfl⟩
  have HEb := hide (fun (vt vb : Value) => show reqCells rb vt vb = reqCells qb vt vb by rw [← HQb.out]; rfl)
  have HFb := hide (show qb.index = rb.index ∧ qb.secret = rb.secret ∧ qb.enable = rb.enable by rw [← HQb.out]; exact ⟨rfl, rfl, rfl⟩)
  rw [HQb.out] at HRb HXb HMb
  have HKqb := hide HMb.out.keys
  obtain ⟨g4, HG⟩ : ∃ k, Hid (w.heap.size = k) := ⟨_, hide rfl⟩
  have hwg : w.heap.size ≤ g4 ∧ g4 ≤ w.heap.size := by have := HG.out; omega
  clear ht hat hina hua hinb hub
  go_enter Tryd.func5, Tryd.ntmps5
  go_upto_region 1 with (first
    | (refine wpList_rq_box _ rfl rfl rfl HKa.out HOa.out.1 HOa.out.2 ?_; intro w1 hb1 hw1 hs1; rw [HG.out] at hb1 hs1; try rw [HG.out]; have H4 := hide hb1; have HB := hide hw1; clear hb1 hw1)
    | (refine wpList_rq_box _ rfl rfl rfl HKb.out HOb.out.1 HOb.out.2 ?_; intro w2 hb2 hw2 hs2; rw [hs1] at hb2 hs2; try rw [hs1]; have H5 := hide hb2; replace H4 := hide (H4.out.below hw2 H4.out.lt); replace HB := hide (HB.out.trans (hw2.mono HB.out.size)); clear hb2 hw2))
  go_cut [] from 18 to 21 (fun wx => (∃ vt vb, RqSt wx g4 qa vt vb) ∧ (∃ vt vb, RqSt wx (g4 + 1) qb vt vb) ∧ Below w.heap.size w wx)
  case first =>
    refine wp_region_held_drew (S := fun w' => Below w.heap.size w w') (by kernel_rfl) HB.out.drew (fun hHeld => ?_)
    replace H4 := hide H4.out.drew
    replace H5 := hide H5.out.drew
    refine wpAnyH_ready (rs := [0, 2]) (by kernel_rfl) (by simp) (AllReadyH.cons rfl (fun K hK => ?q1_0) (AllReadyH.cons rfl (fun K hK => ?q2_2) AllReadyH.nil))
    case q1_0 =>
      rw [if_pos (by kernel_rfl)]
      refine wp_valueD 18 rfl (.agg (reqCells ra uta uba).toArray) (exec_loadAll _ _ rfl g4 0 rfl _ _ H4.out.range0 Tryd.underlying31 rfl (by rw [rq_len HKa.out]; exact size_req)) ?_
      refine hK.out _ _ hHeld (fun hHeld => ?_)
      clear hK K
      try simp only [Act.put, List.setIfInBounds_toArray, List.set_cons_zero, List.set_cons_succ]
      refine wpAnyH_ready (rs := [1, 2]) (by kernel_rfl) (by simp) (AllReadyH.cons rfl (fun K hK => ?q3_1) (AllReadyH.cons rfl (fun K hK => ?q4_2) AllReadyH.nil))
      case q3_1 =>
        rw [if_pos (by kernel_rfl)]
        try go_simp
        refine (request_any ra uta uba ra.tests ra.blobs _ HKa.out ((HTa.out.below hHeld (Nat.le_refl _)).more hHeld.size) ((HUa.out.below hHeld (Nat.le_refl _)).more hHeld.size)).mono ?_
        rintro e w19 ⟨vta, vba, rfl, hta, hoa, hba⟩
        rw [HEa.out vta vba]
        have HVa := hide (And.intro hta.one hta.noB.2)
        have HX := hide (hHeld.trans (hba.mono hHeld.size))
        replace H4 := hide (H4.out.below hba H4.out.lt)
        replace H5 := hide (H5.out.below hba H5.out.lt)
        try replace HSa := hide (HSa.out.kept hba)
        try replace HSb := hide (HSb.out.kept hba)
        have HSa := hide (show BlbSt w19 vba qa.blobs from ⟨_, (by rw [← HQa.out]; exact hoa), hba.size⟩)
        clear hta hoa hba
        refine hK.out _ _ HX.out (fun hHeld => ?_)
        clear HX hK K
        try simp only [Act.put, List.setIfInBounds_toArray, List.set_cons_zero, List.set_cons_succ]
        refine wpAnyH_ready (rs := [2]) (by kernel_rfl) (by simp) (AllReadyH.cons rfl (fun K hK => ?_) AllReadyH.nil)
        rw [if_pos (by kernel_rfl)]
        refine wp_valueD 20 rfl (.agg (reqCells rb utb ubb).toArray) (exec_loadAll _ _ rfl (g4 + 1) 0 rfl _ _ H5.out.range0 Tryd.underlying31 rfl (by rw [rq_len HKb.out]; exact size_req)) ?_
        refine hK.out _ _ hHeld (fun hHeld => ?_)
        clear hK K
        try simp only [Act.put, List.setIfInBounds_toArray, List.set_cons_zero, List.set_cons_succ]
        refine wpAnyH_ready (rs := [3]) (by kernel_rfl) (by simp) (AllReadyH.cons rfl (fun K hK => ?_) AllReadyH.nil)
        rw [if_pos (by kernel_rfl)]
        try go_simp
        refine (request_any rb utb ubb rb.tests rb.blobs _ HKb.out ((HTb.out.below hHeld (Nat.le_refl _)).more hHeld.size) ((HUb.out.below hHeld (Nat.le_refl _)).more hHeld.size)).mono ?_
        rintro e w21 ⟨vtb, vbb, rfl, htb, hob, hbb⟩
        rw [HEb.out vtb vbb]
        have HVb := hide (And.intro htb.one htb.noB.2)
        have HX := hide (hHeld.trans (hbb.mono hHeld.size))
        replace H4 := hide (H4.out.below hbb H4.out.lt)
        replace H5 := hide (H5.out.below hbb H5.out.lt)
        try replace HSa := hide (HSa.out.kept hbb)
        try replace HSb := hide (HSb.out.kept hbb)
        have HSb := hide (show BlbSt w21 vbb qb.blobs from ⟨_, (by rw [← HQb.out]; exact hob), hbb.size⟩)
        clear htb hob hbb
        refine hK.out _ _ HX.out (fun hHeld => ?_)
        clear HX hK K
        try simp only [Act.put, List.setIfInBounds_toArray, List.set_cons_zero, List.set_cons_succ]
        refine wpAnyH_ready (rs := [4]) (by kernel_rfl) (by simp) (AllReadyH.cons rfl (fun K hK => ?_) AllReadyH.nil)
        rw [if_pos (by kernel_rfl)]
        refine wp_rq_putAllD _ _ rfl rfl rfl H4.out qa vta vba rfl HKqa.out HVa.out.1 HSa.out.one ?_
        intro ws4 hs4 hg4
        replace HSa := hide (HSa.out.keep hg4 H4.out hs4 HFa.out.1 HFa.out.2.1 HFa.out.2.2 HNa.out.1 HNa.out.2)
        replace HSb := hide (HSb.out.keep hg4 H4.out hs4 HFa.out.1 HFa.out.2.1 HFa.out.2.2 HNa.out.1 HNa.out.2)
        replace H5 := hide (H5.out.grown hg4 (by intro e; injection e; omega))
        replace H4 := hide hs4
        have HX := hide (hHeld.grown hg4 hHeld.size (by intro k hk; injection hk; omega))
        clear hs4 hg4
        refine hK.out _ _ HX.out (fun hHeld => ?_)
        clear HX hK K
        try simp only [Act.put, List.setIfInBounds_toArray, List.set_cons_zero, List.set_cons_succ]
        refine wpAnyH_ready (rs := [5]) (by kernel_rfl) (by simp) (AllReadyH.cons rfl (fun K hK => ?_) AllReadyH.nil)
        rw [if_pos (by kernel_rfl)]
        refine wp_rq_putAllD _ _ rfl rfl rfl H5.out qb vtb vbb rfl HKqb.out HVb.out.1 HSb.out.one ?_
        intro ws5 hs5 hg5
        replace HSa := hide (HSa.out.keep hg5 H5.out hs5 HFb.out.1 HFb.out.2.1 HFb.out.2.2 HNb.out.1 HNb.out.2)
        replace HSb := hide (HSb.out.keep hg5 H5.out hs5 HFb.out.1 HFb.out.2.1 HFb.out.2.2 HNb.out.1 HNb.out.2)
        replace H4 := hide (H4.out.grown hg5 (by intro e; injection e; omega))
        replace H5 := hide hs5
        have HX := hide (hHeld.grown hg5 hHeld.size (by intro k hk; injection hk; omega))
        clear hs5 hg5
        refine hK.out _ _ HX.out (fun hHeld => ?_)
        clear HX hK K
        try simp only [Act.put, List.setIfInBounds_toArray, List.set_cons_zero, List.set_cons_succ]
        refine wpAnyH_done (by kernel_rfl) ?_ _
        go_wp2_with fail
        go_meet
        exact ⟨⟨_, _, ⟨H4.out, HSa.out, HVa.out.2⟩⟩, ⟨_, _, ⟨H5.out, HSb.out, HVb.out.2⟩⟩, hHeld⟩
      case q4_2 =>
        rw [if_pos (by kernel_rfl)]
        refine wp_valueD 20 rfl (.agg (reqCells rb utb ubb).toArray) (exec_loadAll _ _ rfl (g4 + 1) 0 rfl _ _ H5.out.range0 Tryd.underlying31 rfl (by rw [rq_len HKb.out]; exact size_req)) ?_
        refine hK.out _ _ hHeld (fun hHeld => ?_)
        clear hK K
        try simp only [Act.put, List.setIfInBounds_toArray, List.set_cons_zero, List.set_cons_succ]
        refine wpAnyH_ready (rs := [1]) (by kernel_rfl) (by simp) (AllReadyH.cons rfl (fun K hK => ?_) AllReadyH.nil)
        rw [if_pos (by kernel_rfl)]
        try go_simp
        refine (request_any ra uta uba ra.tests ra.blobs _ HKa.out ((HTa.out.below hHeld (Nat.le_refl _)).more hHeld.size) ((HUa.out.below hHeld (Nat.le_refl _)).more hHeld.size)).mono ?_
        rintro e w19 ⟨vta, vba, rfl, hta, hoa, hba⟩
        rw [HEa.out vta vba]
        have HVa := hide (And.intro hta.one hta.noB.2)
        have HX := hide (hHeld.trans (hba.mono hHeld.size))
        replace H4 := hide (H4.out.below hba H4.out.lt)
        replace H5 := hide (H5.out.below hba H5.out.lt)
        try replace HSa := hide (HSa.out.kept hba)
        try replace HSb := hide (HSb.out.kept hba)
        have HSa := hide (show BlbSt w19 vba qa.blobs from ⟨_, (by rw [← HQa.out]; exact hoa), hba.size⟩)
        clear hta hoa hba
        refine hK.out _ _ HX.out (fun hHeld => ?_)
        clear HX hK K
        try simp only [Act.put, List.setIfInBounds_toArray, List.set_cons_zero, List.set_cons_succ]
        refine wpAnyH_ready (rs := [3]) (by kernel_rfl) (by simp) (AllReadyH.cons rfl (fun K hK => ?_) AllReadyH.nil)
        rw [if_pos (by kernel_rfl)]
        try go_simp
        refine (request_any rb utb ubb rb.tests rb.blobs _ HKb.out ((HTb.out.below hHeld (Nat.le_refl _)).more hHeld.size) ((HUb.out.below hHeld (Nat.le_refl _)).more hHeld.size)).mono ?_
        rintro e w21 ⟨vtb, vbb, rfl, htb, hob, hbb⟩
        rw [HEb.out vtb vbb]
        have HVb := hide (And.intro htb.one htb.noB.2)
        have HX := hide (hHeld.trans (hbb.mono hHeld.size))
        replace H4 := hide (H4.out.below hbb H4.out.lt)
        replace H5 := hide (H5.out.below hbb H5.out.lt)
        try replace HSa := hide (HSa.out.kept hbb)
        try replace HSb := hide (HSb.out.kept hbb)
        have HSb := hide (show BlbSt w21 vbb qb.blobs from ⟨_, (by rw [← HQb.out]; exact hob), hbb.size⟩)
        clear htb hob hbb
        refine hK.out _ _ HX.out (fun hHeld => ?_)
        clear HX hK K
        try simp only [Act.put, List.setIfInBounds_toArray, List.set_cons_zero, List.set_cons_succ]
        refine wpAnyH_ready (rs := [4]) (by kernel_rfl) (by simp) (AllReadyH.cons rfl (fun K hK => ?_) AllReadyH.nil)
        rw [if_pos (by kernel_rfl)]
        refine wp_rq_putAllD _ _ rfl rfl rfl H4.out qa vta vba rfl HKqa.out HVa.out.1 HSa.out.one ?_
        intro ws4 hs4 hg4
        replace HSa := hide (HSa.out.keep hg4 H4.out hs4 HFa.out.1 HFa.out.2.1 HFa.out.2.2 HNa.out.1 HNa.out.2)
        replace HSb := hide (HSb.out.keep hg4 H4.out hs4 HFa.out.1 HFa.out.2.1 HFa.out.2.2 HNa.out.1 HNa.out.2)
        replace H5 := hide (H5.out.grown hg4 (by intro e; injection e; omega))
        replace H4 := hide hs4
        have HX := hide (hHeld.grown hg4 hHeld.size (by intro k hk; injection hk; omega))
        clear hs4 hg4
        refine hK.out _ _ HX.out (fun hHeld => ?_)
        clear HX hK K
        try simp only [Act.put, List.setIfInBounds_toArray, List.set_cons_zero, List.set_cons_succ]
        refine wpAnyH_ready (rs := [5]) (by kernel_rfl) (by simp) (AllReadyH.cons rfl (fun K hK => ?_) AllReadyH.nil)
        rw [if_pos (by kernel_rfl)]
        refine wp_rq_putAllD _ _ rfl rfl rfl H5.out qb vtb vbb rfl HKqb.out HVb.out.1 HSb.out.one ?_
        intro ws5 hs5 hg5
        replace HSa := hide (HSa.out.keep hg5 H5.out hs5 HFb.out.1 HFb.out.2.1 HFb.out.2.2 HNb.out.1 HNb.out.2)
        replace HSb := hide (HSb.out.keep hg5 H5.out hs5 HFb.out.1 HFb.out.2.1 HFb.out.2.2 HNb.out.1 HNb.out.2)
        replace H4 := hide (H4.out.grown hg5 (by intro e; injection e; omega))
        replace H5 := hide hs5
        have HX := hide (hHeld.grown hg5 hHeld.size (by intro k hk; injection hk; omega))
        clear hs5 hg5
        refine hK.out _ _ HX.out (fun hHeld => ?_)
        clear HX hK K
        try simp only [Act.put, List.setIfInBounds_toArray, List.set_cons_zero, List.set_cons_succ]
        refine wpAnyH_done (by kernel_rfl) ?_ _
        go_wp2_with fail
        go_meet
        exact ⟨⟨_, _, ⟨H4.out, HSa.out, HVa.out.2⟩⟩, ⟨_, _, ⟨H5.out, HSb.out, HVb.out.2⟩⟩, hHeld⟩
    case q2_2 =>
      rw [if_pos (by kernel_rfl)]
      refine wp_valueD 20 rfl (.agg (reqCells rb utb ubb).toArray) (exec_loadAll _ _ rfl (g4 + 1) 0 rfl _ _ H5.out.range0 Tryd.underlying31 rfl (by rw [rq_len HKb.out]; exact size_req)) ?_
      refine hK.out _ _ hHeld (fun hHeld => ?_)
      clear hK K
      try simp only [Act.put, List.setIfInBounds_toArray, List.set_cons_zero, List.set_cons_succ]
      refine wpAnyH_ready (rs := [0]) (by kernel_rfl) (by simp) (AllReadyH.cons rfl (fun K hK => ?_) AllReadyH.nil)
      rw [if_pos (by kernel_rfl)]
      refine wp_valueD 18 rfl (.agg (reqCells ra uta uba).toArray) (exec_loadAll _ _ rfl g4 0 rfl _ _ H4.out.range0 Tryd.underlying31 rfl (by rw [rq_len HKa.out]; exact size_req)) ?_
      refine hK.out _ _ hHeld (fun hHeld => ?_)
      clear hK K
      try simp only [Act.put, List.setIfInBounds_toArray, List.set_cons_zero, List.set_cons_succ]
      refine wpAnyH_ready (rs := [1]) (by kernel_rfl) (by simp) (AllReadyH.cons rfl (fun K hK => ?_) AllReadyH.nil)
      rw [if_pos (by kernel_rfl)]
      try go_simp
      refine (request_any ra uta uba ra.tests ra.blobs _ HKa.out ((HTa.out.below hHeld (Nat.le_refl _)).more hHeld.size) ((HUa.out.below hHeld (Nat.le_refl _)).more hHeld.size)).mono ?_
      rintro e w19 ⟨vta, vba, rfl, hta, hoa, hba⟩
      rw [HEa.out vta vba]
      have HVa := hide (And.intro hta.one hta.noB.2)
      have HX := hide (hHeld.trans (hba.mono hHeld.size))
      replace H4 := hide (H4.out.below hba H4.out.lt)
      replace H5 := hide (H5.out.below hba H5.out.lt)
      try replace HSa := hide (HSa.out.kept hba)
      try replace HSb := hide (HSb.out.kept hba)
      have HSa := hide (show BlbSt w19 vba qa.blobs from ⟨_, (by rw [← HQa.out]; exact hoa), hba.size⟩)
      clear hta hoa hba
      refine hK.out _ _ HX.out (fun hHeld => ?_)
      clear HX hK K
      try simp only [Act.put, List.setIfInBounds_toArray, List.set_cons_zero, List.set_cons_succ]
      refine wpAnyH_ready (rs := [3]) (by kernel_rfl) (by simp) (AllReadyH.cons rfl (fun K hK => ?_) AllReadyH.nil)
      rw [if_pos (by kernel_rfl)]
      try go_simp
      refine (request_any rb utb ubb rb.tests rb.blobs _ HKb.out ((HTb.out.below hHeld (Nat.le_refl _)).more hHeld.size) ((HUb.out.below hHeld (Nat.le_refl _)).more hHeld.size)).mono ?_
      rintro e w21 ⟨vtb, vbb, rfl, htb, hob, hbb⟩
      rw [HEb.out vtb vbb]
      have HVb := hide (And.intro htb.one htb.noB.2)
      have HX := hide (hHeld.trans (hbb.mono hHeld.size))
      replace H4 := hide (H4.out.below hbb H4.out.lt)
      replace H5 := hide (H5.out.below hbb H5.out.lt)
      try replace HSa := hide (HSa.out.kept hbb)
      try replace HSb := hide (HSb.out.kept hbb)
      have HSb := hide (show BlbSt w21 vbb qb.blobs from ⟨_, (by rw [← HQb.out]; exact hob), hbb.size⟩)
      clear htb hob hbb
      refine hK.out _ _ HX.out (fun hHeld => ?_)
      clear HX hK K
      try simp only [Act.put, List.setIfInBounds_toArray, List.set_cons_zero, List.set_cons_succ]
      refine wpAnyH_ready (rs := [4]) (by kernel_rfl) (by simp) (AllReadyH.cons rfl (fun K hK => ?_) AllReadyH.nil)
      rw [if_pos (by kernel_rfl)]
      refine wp_rq_putAllD _ _ rfl rfl rfl H4.out qa vta vba rfl HKqa.out HVa.out.1 HSa.out.one ?_
      intro ws4 hs4 hg4
      replace HSa := hide (HSa.out.keep hg4 H4.out hs4 HFa.out.1 HFa.out.2.1 HFa.out.2.2 HNa.out.1 HNa.out.2)
      replace HSb := hide (HSb.out.keep hg4 H4.out hs4 HFa.out.1 HFa.out.2.1 HFa.out.2.2 HNa.out.1 HNa.out.2)
      replace H5 := hide (H5.out.grown hg4 (by intro e; injection e; omega))
      replace H4 := hide hs4
      have HX := hide (hHeld.grown hg4 hHeld.size (by intro k hk; injection hk; omega))
      clear hs4 hg4
      refine hK.out _ _ HX.out (fun hHeld => ?_)
      clear HX hK K
      try simp only [Act.put, List.setIfInBounds_toArray, List.set_cons_zero, List.set_cons_succ]
      refine wpAnyH_ready (rs := [5]) (by kernel_rfl) (by simp) (AllReadyH.cons rfl (fun K hK => ?_) AllReadyH.nil)
      rw [if_pos (by kernel_rfl)]
      refine wp_rq_putAllD _ _ rfl rfl rfl H5.out qb vtb vbb rfl HKqb.out HVb.out.1 HSb.out.one ?_
      intro ws5 hs5 hg5
      replace HSa := hide (HSa.out.keep hg5 H5.out hs5 HFb.out.1 HFb.out.2.1 HFb.out.2.2 HNb.out.1 HNb.out.2)
      replace HSb := hide (HSb.out.keep hg5 H5.out hs5 HFb.out.1 HFb.out.2.1 HFb.out.2.2 HNb.out.1 HNb.out.2)
      replace H4 := hide (H4.out.grown hg5 (by intro e; injection e; omega))
      replace H5 := hide hs5
      have HX := hide (hHeld.grown hg5 hHeld.size (by intro k hk; injection hk; omega))
      clear hs5 hg5
      refine hK.out _ _ HX.out (fun hHeld => ?_)
      clear HX hK K
      try simp only [Act.put, List.setIfInBounds_toArray, List.set_cons_zero, List.set_cons_succ]
      refine wpAnyH_done (by kernel_rfl) ?_ _
      go_wp2_with fail
      go_meet
      exact ⟨⟨_, _, ⟨H4.out, HSa.out, HVa.out.2⟩⟩, ⟨_, _, ⟨H5.out, HSb.out, HVb.out.2⟩⟩, hHeld⟩
  obtain ⟨⟨vta, vba, hsa⟩, ⟨vtb, vbb, hsb⟩, hbel⟩ := hcut
  have HSA := hide hsa
  have HSB := hide hsb
  replace HB := hide hbel
  clear hsa hsb hbel H4 H5
  have hz1 := HB.out.size
  have hl5 := HSB.out.rq.lt
  obtain ⟨gp, HGP⟩ : ∃ k, Hid (wc.heap.size = k) := ⟨_, hide rfl⟩
  go_upto_region 3 with (first
    | (refine wpList_lit_ptrs rfl _ _ rfl ⟨g4, 0, none⟩ ⟨g4 + 1, 0, none⟩ rfl rfl ?_; intro w3 hb3 hw3; rw [HGP.out] at hb3; try rw [HGP.out]; have HP := hide hb3; replace HSA := hide (HSA.out.below hw3); replace HSB := hide (HSB.out.below hw3); replace HB := hide (HB.out.trans (hw3.mono hz1)); clear hb3 hw3))
  have HI0 := hide (show UInv w g4 gp qa qb 0 w3 from ⟨⟨vta, vba, by rw [if_neg (by omega)]; exact HSA.out, fun h => by omega⟩, ⟨vtb, vbb, by rw [if_neg (by omega)]; exact HSB.out, fun h => by omega⟩, HP.out, HB.out.mono (by omega), by have := HGP.out; omega⟩)
  clear HSA HSB HP HB
  go_loopw [24] (fun v24 wr => ∃ i : Nat, v24 = .int .i64 (i : Int) ∧ i ≤ 2 ∧ UInv w g4 gp qa qb i wr) (fun v24 _ => 2 - (intOf v24).toNat)
  case atStart => exact ⟨0, by go_num, by omega, HI0.out⟩
  case round =>
    obtain ⟨i, rfl, hi2, hinv⟩ := hrel
    clear HI0
    by_cases hi : i < 2
    · have hi' : (i : Int) < 2 := by omega
      obtain ⟨gc, qc, vt, vb, hgc, hcell, hsm, hst, hnext⟩ := hinv.round hi HMa.out HMb.out
      have HQ := hide hst.rq
      have HBS := hide hst.bl
      have HNT := hide (And.intro hst.nt hst.bl.noB.2)
      have HNEXT := hide hnext
      have HC := hide hcell
      have HIK := hide (show -9223372036854775808 ≤ qc.kind ∧ qc.kind ≤ 9223372036854775807 from hsm.kind)
      have HIE := hide (show -9223372036854775808 ≤ qc.ends ∧ qc.ends ≤ 9223372036854775807 from hsm.ends)
      have HKC := hide hsm.keys
      have HKN := hide (normU_keys hsm.keys)
      have HSB := hide hsm.blobs
      have hwk := within_range qc.kind 6 (by omega)
      have hwe := within_range qc.ends 1000 (by omega)
      clear hinv hcell hsm hst hnext
      go_upto_region 5 with (first
        | (refine wpList_val rfl (exec_load_one _ _ rfl gp i rfl _ Tryd.underlying47 rfl _ HC.out) ?_))
      go_cut [24] from 28 to 44 (fun v24 wx => v24 = .int .i64 (i : Int) ∧ ReqB wx gc (normU qc) vt vb ∧ wr.grownBy wx (some gc))
      case first =>
        refine wp_region_held_drew (S := fun w' => wr.grownBy w' (some gc)) (by kernel_rfl) (World.grownBy.drew_ _ _) (fun hHeld => ?_)
        replace HQ := hide HQ.out.drew
        refine take_d 28 (i := 0) (v := .pointer (some ⟨gc, 0, none⟩)) rfl (by kernel_rfl) (by kernel_rfl) (by kernel_rfl) (by kernel_rfl) (fun _ _ _ h => h) (Or.inl ⟨by kernel_rfl, fun w' hS => exec_move _ rfl (.pointer (some ⟨gc, 0, none⟩)) rfl⟩) hHeld ?_
        try simp only [Act.put, List.setIfInBounds_toArray, List.set_cons_zero, List.set_cons_succ]
        refine take_d 29 (i := 1) (v := .pointer (some ⟨gc, 0, none⟩)) rfl (by kernel_rfl) (by kernel_rfl) (by kernel_rfl) (by kernel_rfl) (fun _ _ _ h => h) (Or.inl ⟨by kernel_rfl, fun w' hS => exec_move _ rfl (.pointer (some ⟨gc, 0, none⟩)) rfl⟩) hHeld ?_
        try simp only [Act.put, List.setIfInBounds_toArray, List.set_cons_zero, List.set_cons_succ]
        refine take_d 30 (i := 2) (v := .pointer (some ⟨gc, 0, none⟩)) rfl (by kernel_rfl) (by kernel_rfl) (by kernel_rfl) (by kernel_rfl) (fun _ _ _ h => h) (Or.inl ⟨by kernel_rfl, fun w' hS => exec_move _ rfl (.pointer (some ⟨gc, 0, none⟩)) rfl⟩) hHeld ?_
        try simp only [Act.put, List.setIfInBounds_toArray, List.set_cons_zero, List.set_cons_succ]
        refine take_d 31 (i := 3) (v := .pointer (some ⟨gc, 0, none⟩)) rfl (by kernel_rfl) (by kernel_rfl) (by kernel_rfl) (by kernel_rfl) (fun _ _ _ h => h) (Or.inl ⟨by kernel_rfl, fun w' hS => exec_nilP _ rfl _ rfl⟩) hHeld ?_
        try simp only [Act.put, List.setIfInBounds_toArray, List.set_cons_zero, List.set_cons_succ]
        refine take_d 32 (i := 4) (v := .pointer (some ⟨gc, 0, none⟩)) rfl (by kernel_rfl) (by kernel_rfl) (by kernel_rfl) (by kernel_rfl) (fun _ _ _ h => h) (Or.inl ⟨by kernel_rfl, fun w' hS => exec_fieldG _ _ 0 0 rfl gc 0 rfl (by kernel_rfl) _ (by first | rfl | omega)⟩) hHeld ?_
        try simp only [Act.put, List.setIfInBounds_toArray, List.set_cons_zero, List.set_cons_succ]
        refine take_d 36 (i := 8) (v := .pointer (some ⟨gc, 0, none⟩)) rfl (by kernel_rfl) (by kernel_rfl) (by kernel_rfl) (by kernel_rfl) (fun _ _ _ h => h) (Or.inl ⟨by kernel_rfl, fun w' hS => exec_move _ rfl (.pointer (some ⟨gc, 0, none⟩)) rfl⟩) hHeld ?_
        try simp only [Act.put, List.setIfInBounds_toArray, List.set_cons_zero, List.set_cons_succ]
        refine take_d 37 (i := 9) (v := .pointer (some ⟨gc, 0, none⟩)) rfl (by kernel_rfl) (by kernel_rfl) (by kernel_rfl) (by kernel_rfl) (fun _ _ _ h => h) (Or.inl ⟨by kernel_rfl, fun w' hS => exec_nilP _ rfl _ rfl⟩) hHeld ?_
        try simp only [Act.put, List.setIfInBounds_toArray, List.set_cons_zero, List.set_cons_succ]
        refine take_d 38 (i := 10) (v := .pointer (some ⟨gc, 33, none⟩)) rfl (by kernel_rfl) (by kernel_rfl) (by kernel_rfl) (by kernel_rfl) (fun _ _ _ h => h) (Or.inl ⟨by kernel_rfl, fun w' hS => exec_fieldG _ _ 3 33 rfl gc 0 rfl (by kernel_rfl) _ (by first | rfl | omega)⟩) hHeld ?_
        try simp only [Act.put, List.setIfInBounds_toArray, List.set_cons_zero, List.set_cons_succ]
        refine wpAnyH_ready (rs := [5, 11]) (by kernel_rfl) (by simp) (AllReadyH.cons rfl (fun K hK => ?q1_5) (AllReadyH.cons rfl (fun K hK => ?q2_11) AllReadyH.nil))
        case q1_5 =>
          rw [if_pos (by kernel_rfl)]
          refine wp_valueD 33 rfl (.int .i64 qc.kind) (exec_load_one _ _ rfl gc 0 rfl _ Tryd.underlying3 rfl _ HQ.out.cellK) ?_
          refine hK.out _ _ hHeld (fun hHeld => ?_)
          clear hK K
          try simp only [Act.put, List.setIfInBounds_toArray, List.set_cons_zero, List.set_cons_succ]
          refine wpAnyH_ready (rs := [6, 11]) (by kernel_rfl) (by simp) (AllReadyH.cons rfl (fun K hK => ?q3_6) (AllReadyH.cons rfl (fun K hK => ?q4_11) AllReadyH.nil))
          case q3_6 =>
            rw [if_pos (by kernel_rfl)]
            try go_simp
            refine (within_any qc.kind 6 _ HIK.out.1 HIK.out.2 (by omega)).mono ?_
            rintro e w34 ⟨rfl, rfl⟩
            refine hK.out _ _ hHeld (fun hHeld => ?_)
            clear hK K
            try simp only [Act.put, List.setIfInBounds_toArray, List.set_cons_zero, List.set_cons_succ]
            refine take_d 35 (i := 7) (v := .int .i64 (1 + within qc.kind 6)) rfl (by kernel_rfl) (by kernel_rfl) (by kernel_rfl) (by kernel_rfl) (fun _ _ _ h => h) (Or.inl ⟨by kernel_rfl, fun w' hS => exec_addG _ _ _ rfl _ _ _ rfl rfl (by omega) (by omega)⟩) hHeld ?_
            try simp only [Act.put, List.setIfInBounds_toArray, List.set_cons_zero, List.set_cons_succ]
            refine wpAnyH_ready (rs := [11]) (by kernel_rfl) (by simp) (AllReadyH.cons rfl (fun K hK => ?_) AllReadyH.nil)
            rw [if_pos (by kernel_rfl)]
            refine wp_valueD 39 rfl (.int .i64 qc.ends) (exec_load_one _ _ rfl gc 33 rfl _ Tryd.underlying3 rfl _ HQ.out.cellE) ?_
            refine hK.out _ _ hHeld (fun hHeld => ?_)
            clear hK K
            try simp only [Act.put, List.setIfInBounds_toArray, List.set_cons_zero, List.set_cons_succ]
            refine wpAnyH_ready (rs := [12]) (by kernel_rfl) (by simp) (AllReadyH.cons rfl (fun K hK => ?_) AllReadyH.nil)
            rw [if_pos (by kernel_rfl)]
            try go_simp
            refine (within_any qc.ends 1000 _ HIE.out.1 HIE.out.2 (by omega)).mono ?_
            rintro e w40 ⟨rfl, rfl⟩
            refine hK.out _ _ hHeld (fun hHeld => ?_)
            clear hK K
            try simp only [Act.put, List.setIfInBounds_toArray, List.set_cons_zero, List.set_cons_succ]
            refine take_d 41 (i := 13) (v := .pointer (some ⟨gc, 0, none⟩)) rfl (by kernel_rfl) (by kernel_rfl) (by kernel_rfl) (by kernel_rfl) (fun _ _ _ h => h) (Or.inl ⟨by kernel_rfl, fun w' hS => exec_nilP _ rfl _ rfl⟩) hHeld ?_
            try simp only [Act.put, List.setIfInBounds_toArray, List.set_cons_zero, List.set_cons_succ]
            refine take_d 42 (i := 14) (v := .pointer (some ⟨gc, 0, none⟩)) rfl (by kernel_rfl) (by kernel_rfl) (by kernel_rfl) (by kernel_rfl) (fun _ _ _ h => h) (Or.inl ⟨by kernel_rfl, fun w' hS => exec_fieldG _ _ 0 0 rfl gc 0 rfl (by kernel_rfl) _ (by first | rfl | omega)⟩) hHeld ?_
            try simp only [Act.put, List.setIfInBounds_toArray, List.set_cons_zero, List.set_cons_succ]
            refine wpAnyH_ready (rs := [15]) (by kernel_rfl) (by simp) (AllReadyH.cons rfl (fun K hK => ?_) AllReadyH.nil)
            rw [if_pos (by kernel_rfl)]
            refine wp_rq_put1D 3 _ _ rfl rfl 0 rfl HQ.out (.int .i64 (1 + within qc.kind 6)) rfl rfl (by kernel_rfl) (by omega) { qc with kind := 1 + within qc.kind 6 } vt vb (rq_setK _) ⟨HQ.out.keys.i, HQ.out.keys.s, HQ.out.keys.e⟩ HQ.out.oneT HQ.out.oneB ?_
            intro ws15 hs15 hg15
            replace HQ := hide hs15
            have HX := hide (World.grownBy.trans hHeld hg15)
            clear hs15 hg15
            refine hK.out _ _ HX.out (fun hHeld => ?_)
            clear HX hK K
            try simp only [Act.put, List.setIfInBounds_toArray, List.set_cons_zero, List.set_cons_succ]
            refine take_d 43 (i := 16) (v := .pointer (some ⟨gc, 0, none⟩)) rfl (by kernel_rfl) (by kernel_rfl) (by kernel_rfl) (by kernel_rfl) (fun _ _ _ h => h) (Or.inl ⟨by kernel_rfl, fun w' hS => exec_nilP _ rfl _ rfl⟩) hHeld ?_
            try simp only [Act.put, List.setIfInBounds_toArray, List.set_cons_zero, List.set_cons_succ]
            refine take_d 44 (i := 17) (v := .pointer (some ⟨gc, 33, none⟩)) rfl (by kernel_rfl) (by kernel_rfl) (by kernel_rfl) (by kernel_rfl) (fun _ _ _ h => h) (Or.inl ⟨by kernel_rfl, fun w' hS => exec_fieldG _ _ 3 33 rfl gc 0 rfl (by kernel_rfl) _ (by first | rfl | omega)⟩) hHeld ?_
            try simp only [Act.put, List.setIfInBounds_toArray, List.set_cons_zero, List.set_cons_succ]
            refine wpAnyH_ready (rs := [18]) (by kernel_rfl) (by simp) (AllReadyH.cons rfl (fun K hK => ?_) AllReadyH.nil)
            rw [if_pos (by kernel_rfl)]
            refine wp_rq_put1D 3 _ _ rfl rfl 33 rfl HQ.out (.int .i64 (within qc.ends 1000)) rfl rfl (by kernel_rfl) (by omega) { qc with kind := 1 + within qc.kind 6, ends := within qc.ends 1000 } vt vb (rq_setE HQ.out.keys _) ⟨HQ.out.keys.i, HQ.out.keys.s, HQ.out.keys.e⟩ HQ.out.oneT HQ.out.oneB ?_
            intro ws18 hs18 hg18
            replace HQ := hide hs18
            have HX := hide (World.grownBy.trans hHeld hg18)
            clear hs18 hg18
            refine hK.out _ _ HX.out (fun hHeld => ?_)
            clear HX hK K
            try simp only [Act.put, List.setIfInBounds_toArray, List.set_cons_zero, List.set_cons_succ]
            refine wpAnyH_done (by kernel_rfl) ?_ _
            go_wp2_with fail
            go_meet
            exact ⟨rfl, ⟨HQ.out.blk, HKN.out, HQ.out.oneT, HQ.out.oneB⟩, hHeld⟩
          case q4_11 =>
            rw [if_pos (by kernel_rfl)]
            refine wp_valueD 39 rfl (.int .i64 qc.ends) (exec_load_one _ _ rfl gc 33 rfl _ Tryd.underlying3 rfl _ HQ.out.cellE) ?_
            refine hK.out _ _ hHeld (fun hHeld => ?_)
            clear hK K
            try simp only [Act.put, List.setIfInBounds_toArray, List.set_cons_zero, List.set_cons_succ]
            refine wpAnyH_ready (rs := [6]) (by kernel_rfl) (by simp) (AllReadyH.cons rfl (fun K hK => ?_) AllReadyH.nil)
            rw [if_pos (by kernel_rfl)]
            try go_simp
            refine (within_any qc.kind 6 _ HIK.out.1 HIK.out.2 (by omega)).mono ?_
            rintro e w34 ⟨rfl, rfl⟩
            refine hK.out _ _ hHeld (fun hHeld => ?_)
            clear hK K
            try simp only [Act.put, List.setIfInBounds_toArray, List.set_cons_zero, List.set_cons_succ]
            refine take_d 35 (i := 7) (v := .int .i64 (1 + within qc.kind 6)) rfl (by kernel_rfl) (by kernel_rfl) (by kernel_rfl) (by kernel_rfl) (fun _ _ _ h => h) (Or.inl ⟨by kernel_rfl, fun w' hS => exec_addG _ _ _ rfl _ _ _ rfl rfl (by omega) (by omega)⟩) hHeld ?_
            try simp only [Act.put, List.setIfInBounds_toArray, List.set_cons_zero, List.set_cons_succ]
            refine wpAnyH_ready (rs := [12]) (by kernel_rfl) (by simp) (AllReadyH.cons rfl (fun K hK => ?_) AllReadyH.nil)
            rw [if_pos (by kernel_rfl)]
            try go_simp
            refine (within_any qc.ends 1000 _ HIE.out.1 HIE.out.2 (by omega)).mono ?_
            rintro e w40 ⟨rfl, rfl⟩
            refine hK.out _ _ hHeld (fun hHeld => ?_)
            clear hK K
            try simp only [Act.put, List.setIfInBounds_toArray, List.set_cons_zero, List.set_cons_succ]
            refine take_d 41 (i := 13) (v := .pointer (some ⟨gc, 0, none⟩)) rfl (by kernel_rfl) (by kernel_rfl) (by kernel_rfl) (by kernel_rfl) (fun _ _ _ h => h) (Or.inl ⟨by kernel_rfl, fun w' hS => exec_nilP _ rfl _ rfl⟩) hHeld ?_
            try simp only [Act.put, List.setIfInBounds_toArray, List.set_cons_zero, List.set_cons_succ]
            refine take_d 42 (i := 14) (v := .pointer (some ⟨gc, 0, none⟩)) rfl (by kernel_rfl) (by kernel_rfl) (by kernel_rfl) (by kernel_rfl) (fun _ _ _ h => h) (Or.inl ⟨by kernel_rfl, fun w' hS => exec_fieldG _ _ 0 0 rfl gc 0 rfl (by kernel_rfl) _ (by first | rfl | omega)⟩) hHeld ?_
            try simp only [Act.put, List.setIfInBounds_toArray, List.set_cons_zero, List.set_cons_succ]
            refine wpAnyH_ready (rs := [15]) (by kernel_rfl) (by simp) (AllReadyH.cons rfl (fun K hK => ?_) AllReadyH.nil)
            rw [if_pos (by kernel_rfl)]
            refine wp_rq_put1D 3 _ _ rfl rfl 0 rfl HQ.out (.int .i64 (1 + within qc.kind 6)) rfl rfl (by kernel_rfl) (by omega) { qc with kind := 1 + within qc.kind 6 } vt vb (rq_setK _) ⟨HQ.out.keys.i, HQ.out.keys.s, HQ.out.keys.e⟩ HQ.out.oneT HQ.out.oneB ?_
            intro ws15 hs15 hg15
            replace HQ := hide hs15
            have HX := hide (World.grownBy.trans hHeld hg15)
            clear hs15 hg15
            refine hK.out _ _ HX.out (fun hHeld => ?_)
            clear HX hK K
            try simp only [Act.put, List.setIfInBounds_toArray, List.set_cons_zero, List.set_cons_succ]
            refine take_d 43 (i := 16) (v := .pointer (some ⟨gc, 0, none⟩)) rfl (by kernel_rfl) (by kernel_rfl) (by kernel_rfl) (by kernel_rfl) (fun _ _ _ h => h) (Or.inl ⟨by kernel_rfl, fun w' hS => exec_nilP _ rfl _ rfl⟩) hHeld ?_
            try simp only [Act.put, List.setIfInBounds_toArray, List.set_cons_zero, List.set_cons_succ]
            refine take_d 44 (i := 17) (v := .pointer (some ⟨gc, 33, none⟩)) rfl (by kernel_rfl) (by kernel_rfl) (by kernel_rfl) (by kernel_rfl) (fun _ _ _ h => h) (Or.inl ⟨by kernel_rfl, fun w' hS => exec_fieldG _ _ 3 33 rfl gc 0 rfl (by kernel_rfl) _ (by first | rfl | omega)⟩) hHeld ?_
            try simp only [Act.put, List.setIfInBounds_toArray, List.set_cons_zero, List.set_cons_succ]
            refine wpAnyH_ready (rs := [18]) (by kernel_rfl) (by simp) (AllReadyH.cons rfl (fun K hK => ?_) AllReadyH.nil)
            rw [if_pos (by kernel_rfl)]
            refine wp_rq_put1D 3 _ _ rfl rfl 33 rfl HQ.out (.int .i64 (within qc.ends 1000)) rfl rfl (by kernel_rfl) (by omega) { qc with kind := 1 + within qc.kind 6, ends := within qc.ends 1000 } vt vb (rq_setE HQ.out.keys _) ⟨HQ.out.keys.i, HQ.out.keys.s, HQ.out.keys.e⟩ HQ.out.oneT HQ.out.oneB ?_
            intro ws18 hs18 hg18
            replace HQ := hide hs18
            have HX := hide (World.grownBy.trans hHeld hg18)
            clear hs18 hg18
            refine hK.out _ _ HX.out (fun hHeld => ?_)
            clear HX hK K
            try simp only [Act.put, List.setIfInBounds_toArray, List.set_cons_zero, List.set_cons_succ]
            refine wpAnyH_done (by kernel_rfl) ?_ _
            go_wp2_with fail
            go_meet
            exact ⟨rfl, ⟨HQ.out.blk, HKN.out, HQ.out.oneT, HQ.out.oneB⟩, hHeld⟩
        case q2_11 =>
          rw [if_pos (by kernel_rfl)]
          refine wp_valueD 39 rfl (.int .i64 qc.ends) (exec_load_one _ _ rfl gc 33 rfl _ Tryd.underlying3 rfl _ HQ.out.cellE) ?_
          refine hK.out _ _ hHeld (fun hHeld => ?_)
          clear hK K
          try simp only [Act.put, List.setIfInBounds_toArray, List.set_cons_zero, List.set_cons_succ]
          refine wpAnyH_ready (rs := [5]) (by kernel_rfl) (by simp) (AllReadyH.cons rfl (fun K hK => ?_) AllReadyH.nil)
          rw [if_pos (by kernel_rfl)]
          refine wp_valueD 33 rfl (.int .i64 qc.kind) (exec_load_one _ _ rfl gc 0 rfl _ Tryd.underlying3 rfl _ HQ.out.cellK) ?_
          refine hK.out _ _ hHeld (fun hHeld => ?_)
          clear hK K
          try simp only [Act.put, List.setIfInBounds_toArray, List.set_cons_zero, List.set_cons_succ]
          refine wpAnyH_ready (rs := [6]) (by kernel_rfl) (by simp) (AllReadyH.cons rfl (fun K hK => ?_) AllReadyH.nil)
          rw [if_pos (by kernel_rfl)]
          try go_simp
          refine (within_any qc.kind 6 _ HIK.out.1 HIK.out.2 (by omega)).mono ?_
          rintro e w34 ⟨rfl, rfl⟩
          refine hK.out _ _ hHeld (fun hHeld => ?_)
          clear hK K
          try simp only [Act.put, List.setIfInBounds_toArray, List.set_cons_zero, List.set_cons_succ]
          refine take_d 35 (i := 7) (v := .int .i64 (1 + within qc.kind 6)) rfl (by kernel_rfl) (by kernel_rfl) (by kernel_rfl) (by kernel_rfl) (fun _ _ _ h => h) (Or.inl ⟨by kernel_rfl, fun w' hS => exec_addG _ _ _ rfl _ _ _ rfl rfl (by omega) (by omega)⟩) hHeld ?_
          try simp only [Act.put, List.setIfInBounds_toArray, List.set_cons_zero, List.set_cons_succ]
          refine wpAnyH_ready (rs := [12]) (by kernel_rfl) (by simp) (AllReadyH.cons rfl (fun K hK => ?_) AllReadyH.nil)
          rw [if_pos (by kernel_rfl)]
          try go_simp
          refine (within_any qc.ends 1000 _ HIE.out.1 HIE.out.2 (by omega)).mono ?_
          rintro e w40 ⟨rfl, rfl⟩
          refine hK.out _ _ hHeld (fun hHeld => ?_)
          clear hK K
          try simp only [Act.put, List.setIfInBounds_toArray, List.set_cons_zero, List.set_cons_succ]
          refine take_d 41 (i := 13) (v := .pointer (some ⟨gc, 0, none⟩)) rfl (by kernel_rfl) (by kernel_rfl) (by kernel_rfl) (by kernel_rfl) (fun _ _ _ h => h) (Or.inl ⟨by kernel_rfl, fun w' hS => exec_nilP _ rfl _ rfl⟩) hHeld ?_
          try simp only [Act.put, List.setIfInBounds_toArray, List.set_cons_zero, List.set_cons_succ]
          refine take_d 42 (i := 14) (v := .pointer (some ⟨gc, 0, none⟩)) rfl (by kernel_rfl) (by kernel_rfl) (by kernel_rfl) (by kernel_rfl) (fun _ _ _ h => h) (Or.inl ⟨by kernel_rfl, fun w' hS => exec_fieldG _ _ 0 0 rfl gc 0 rfl (by kernel_rfl) _ (by first | rfl | omega)⟩) hHeld ?_
          try simp only [Act.put, List.setIfInBounds_toArray, List.set_cons_zero, List.set_cons_succ]
          refine wpAnyH_ready (rs := [15]) (by kernel_rfl) (by simp) (AllReadyH.cons rfl (fun K hK => ?_) AllReadyH.nil)
          rw [if_pos (by kernel_rfl)]
          refine wp_rq_put1D 3 _ _ rfl rfl 0 rfl HQ.out (.int .i64 (1 + within qc.kind 6)) rfl rfl (by kernel_rfl) (by omega) { qc with kind := 1 + within qc.kind 6 } vt vb (rq_setK _) ⟨HQ.out.keys.i, HQ.out.keys.s, HQ.out.keys.e⟩ HQ.out.oneT HQ.out.oneB ?_
          intro ws15 hs15 hg15
          replace HQ := hide hs15
          have HX := hide (World.grownBy.trans hHeld hg15)
          clear hs15 hg15
          refine hK.out _ _ HX.out (fun hHeld => ?_)
          clear HX hK K
          try simp only [Act.put, List.setIfInBounds_toArray, List.set_cons_zero, List.set_cons_succ]
          refine take_d 43 (i := 16) (v := .pointer (some ⟨gc, 0, none⟩)) rfl (by kernel_rfl) (by kernel_rfl) (by kernel_rfl) (by kernel_rfl) (fun _ _ _ h => h) (Or.inl ⟨by kernel_rfl, fun w' hS => exec_nilP _ rfl _ rfl⟩) hHeld ?_
          try simp only [Act.put, List.setIfInBounds_toArray, List.set_cons_zero, List.set_cons_succ]
          refine take_d 44 (i := 17) (v := .pointer (some ⟨gc, 33, none⟩)) rfl (by kernel_rfl) (by kernel_rfl) (by kernel_rfl) (by kernel_rfl) (fun _ _ _ h => h) (Or.inl ⟨by kernel_rfl, fun w' hS => exec_fieldG _ _ 3 33 rfl gc 0 rfl (by kernel_rfl) _ (by first | rfl | omega)⟩) hHeld ?_
          try simp only [Act.put, List.setIfInBounds_toArray, List.set_cons_zero, List.set_cons_succ]
          refine wpAnyH_ready (rs := [18]) (by kernel_rfl) (by simp) (AllReadyH.cons rfl (fun K hK => ?_) AllReadyH.nil)
          rw [if_pos (by kernel_rfl)]
          refine wp_rq_put1D 3 _ _ rfl rfl 33 rfl HQ.out (.int .i64 (within qc.ends 1000)) rfl rfl (by kernel_rfl) (by omega) { qc with kind := 1 + within qc.kind 6, ends := within qc.ends 1000 } vt vb (rq_setE HQ.out.keys _) ⟨HQ.out.keys.i, HQ.out.keys.s, HQ.out.keys.e⟩ HQ.out.oneT HQ.out.oneB ?_
          intro ws18 hs18 hg18
          replace HQ := hide hs18
          have HX := hide (World.grownBy.trans hHeld hg18)
          clear hs18 hg18
          refine hK.out _ _ HX.out (fun hHeld => ?_)
          clear HX hK K
          try simp only [Act.put, List.setIfInBounds_toArray, List.set_cons_zero, List.set_cons_succ]
          refine wpAnyH_done (by kernel_rfl) ?_ _
          go_wp2_with fail
          go_meet
          exact ⟨rfl, ⟨HQ.out.blk, HKN.out, HQ.out.oneT, HQ.out.oneB⟩, hHeld⟩
      obtain ⟨rfl, hq5, hg5⟩ := hcut
      have HQ5 := hide hq5
      have HG5 := hide hg5
      have hz5 := hg5.size
      clear hq5 hg5
      go_wp2_with (first
        | (refine wpList_rq_putT _ _ rfl rfl rfl HQ5.out _ rfl rfl ?_; intro w6 hb6 hg6 hs6; have HQ6 := hide hb6; have HG6 := hide (World.grownBy.trans HG5.out hg6); clear hb6 hg6)
        | (refine wpList_rq_blobs _ rfl rfl rfl HQ6.out ?_))
      have HBS6 := hide (HBS.out.keep HG6.out HQ.out HQ6.out rfl rfl rfl HNT.out.1 HNT.out.2)
      have hz6 := HG6.out.size
      refine (cut_blobs vb qc.blobs 5 w6 w6.heap.size HBS6.out.reads (by omega) (by omega)).mono ?_
      rintro e w7 ⟨v7, rfl, hv7, rfl⟩
      have HV7 := hide hv7
      clear hv7
      go_wp2_with fail
      obtain ⟨l5, HL5⟩ : ∃ l, Hid (qc.blobs.take (5 : Int).toNat = l) := ⟨_, hide rfl⟩
      have HBL := hide (show ∀ x ∈ l5, Bytes x.2 ∧ In64 x.1 ∧ x.2.length ≤ 100 from fun x hx => by rw [← HL5.out] at hx; exact HSB.out x (List.mem_of_mem_take hx))
      have HLN := hide (show l5.length ≤ 5 by rw [← HL5.out, List.length_take]; exact Nat.min_le_left _ _)
      have HNB := hide (show (normU qc).blobs = l5.map fun x => (within x.1 16, x.2) by rw [← HL5.out]; rfl)
      rw [HL5.out] at HV7
      refine (copy_blobs v7 l5 w6 HV7.out (fun x hx => by have := HBL.out x hx; exact ⟨this.1, by omega⟩) (by have := HLN.out; omega)).mono ?_
      rintro e w8 ⟨v8, rfl, ho8, hb8⟩
      have HO8 := hide ho8
      have hz8 := hb8.size
      have HV8 := hide ho8.one
      obtain ⟨A8, c8, rfl⟩ := ho8.shape
      obtain ⟨m, HM⟩ : ∃ x, Hid (l5.length = x) := ⟨_, hide rfl⟩
      rw [HM.out] at HO8 HV8 ⊢
      have hlt6 := HQ6.out.lt
      have HQ8 := hide (HQ6.out.below hb8 hlt6)
      have HG8 := hide (grown_below' HG6.out hb8)
      obtain ⟨base, HBA⟩ : ∃ k, Hid (w6.heap.size = k) := ⟨_, hide rfl⟩
      rw [HBA.out] at HO8
      have hba : gc < base ∧ wr.heap.size ≤ base ∧ base ≤ w8.heap.size := by have := HBA.out; omega
      have hm5 : m ≤ 5 := by have := HLN.out; have := HM.out; omega
      have hbo : ∀ g, base ≤ g → wr.heap.size ≤ g := fun g hg => Nat.le_trans hba.2.1 hg
      clear ho8 hb8 HQ5 HG5 HQ6 HG6 HBS6 HV7
      go_wp2_with (first
        | (refine wpList_rq_putB _ _ rfl rfl rfl HQ8.out _ rfl HV8.out ?_; intro w9 hb9 hg9 hs9; have HQ9 := hide hb9; have hz9 := hg9.size; have HG9 := hide (World.grownBy.trans HG8.out hg9); have HO9 := hide (HO8.out.past HQ8.out.blk (by decide) (by decide) hg9); clear hb9 hg9)
        | (refine wpList_rq_blobs _ rfl rfl rfl HQ9.out ?_))
      go_loopw [62] (fun v62 wi => ∃ j : Nat, v62 = .int .i64 (j : Int) ∧ j ≤ m ∧ OwnBlbsR wi base (.slice A8 m c8) (normB l5 j) ∧ ReqB wi gc (normU qc) nilV (.slice A8 m c8) ∧ wr.grownBy wi (some gc) ∧ base ≤ wi.heap.size) (fun v62 _ => m - (intOf v62).toNat)
      case atStart => exact ⟨0, by go_num, by omega, HO9.out, HQ9.out, HG9.out, by omega⟩
      case round =>
        obtain ⟨j, rfl, hjm', ho, hq, hg, hbz⟩ := hrel
        clear HQ HQ8 HQ9 HG8 HG9 HO8 HO9
        have HO := hide ho
        have HQ := hide hq
        have HG := hide hg
        have HLL := hide (show (normB l5 j).length = m by rw [normB_len, HM.out])
        clear ho hq hg
        by_cases hjm : j < m
        · have hjm1 : (j : Int) < (m : Int) := by omega
          obtain ⟨gb, rfl, hgb1, hgb2⟩ := HO.out.blk_ (by rw [HLL.out]; omega)
          have hgb := hbo gb hgb1
          obtain ⟨X, HXX⟩ : ∃ x, Hid ((l5[j]'(by rw [HM.out]; exact hjm)).1 = x) := ⟨_, hide rfl⟩
          have HNX := hide (show ((normB l5 j)[j]'(by rw [HLL.out]; exact hjm)).1 = X by rw [normB_get l5 j (by rw [HM.out]; exact hjm), HXX.out])
          have HSET := hide (show (normB l5 j).set j (within X 16, ((normB l5 j)[j]'(by rw [HLL.out]; exact hjm)).2) = normB l5 (j + 1) by rw [normB_get l5 j (by rw [HM.out]; exact hjm), ← HXX.out]; exact normB_set l5 j (by rw [HM.out]; exact hjm))
          have HXI := hide (show -9223372036854775808 ≤ X ∧ X ≤ 9223372036854775807 from by rw [← HXX.out]; exact (HBL.out _ (List.getElem_mem (by rw [HM.out]; exact hjm))).2.1)
          go_upto_region 11 with fail
          refine wp_region_held_drew (S := fun w' => ReqB w' gc (normU qc) nilV (.slice (some ⟨gb, 0, none⟩) m c8)) (by kernel_rfl) HQ.out.drew (fun hHeld => ?_)
          replace HO := hide (HO.out.keptB (Below.refl _ _).drew)
          replace HG := hide (grown_below' HG.out (Below.refl _ _).drew)
          have HNC := hide ((HO.out.num_cell j (by rw [HLL.out]; exact hjm)).trans (show _ = some (Value.int .i64 X) by rw [HNX.out]))
          refine take_d 65 (i := 0) (v := .pointer (some ⟨gc, 0, none⟩)) rfl (by kernel_rfl) (by kernel_rfl) (by kernel_rfl) (by kernel_rfl) (fun _ _ _ h => h) (Or.inl ⟨by kernel_rfl, fun w' hS => exec_move _ rfl (.pointer (some ⟨gc, 0, none⟩)) rfl⟩) hHeld ?_
          try simp only [Act.put, List.setIfInBounds_toArray, List.set_cons_zero, List.set_cons_succ]
          refine take_d 66 (i := 1) (v := .pointer (some ⟨gc, 0, none⟩)) rfl (by kernel_rfl) (by kernel_rfl) (by kernel_rfl) (by kernel_rfl) (fun _ _ _ h => h) (Or.inl ⟨by kernel_rfl, fun w' hS => exec_nilP _ rfl _ rfl⟩) hHeld ?_
          try simp only [Act.put, List.setIfInBounds_toArray, List.set_cons_zero, List.set_cons_succ]
          refine take_d 67 (i := 2) (v := .pointer (some ⟨gc, 51, none⟩)) rfl (by kernel_rfl) (by kernel_rfl) (by kernel_rfl) (by kernel_rfl) (fun _ _ _ h => h) (Or.inl ⟨by kernel_rfl, fun w' hS => exec_fieldG _ _ 6 51 rfl gc 0 rfl (by kernel_rfl) _ (by first | rfl | omega)⟩) hHeld ?_
          try simp only [Act.put, List.setIfInBounds_toArray, List.set_cons_zero, List.set_cons_succ]
          refine take_d 68 (i := 3) (v := .slice (some ⟨gb, 0, none⟩) m c8) rfl (by kernel_rfl) (by kernel_rfl) (by kernel_rfl) (by kernel_rfl) (fun _ _ _ h => h) (Or.inl ⟨by kernel_rfl, fun w' hS => exec_load_one _ _ rfl gc 51 rfl _ Tryd.underlying23 rfl _ hS.cellB⟩) hHeld ?_
          try simp only [Act.put, List.setIfInBounds_toArray, List.set_cons_zero, List.set_cons_succ]
          refine take_d 69 (i := 4) (v := .int .i64 ((j : Int))) rfl (by kernel_rfl) (by kernel_rfl) (by kernel_rfl) (by kernel_rfl) (fun _ _ _ h => h) (Or.inl ⟨by kernel_rfl, fun w' hS => exec_move _ rfl (.int .i64 ((j : Int))) rfl⟩) hHeld ?_
          try simp only [Act.put, List.setIfInBounds_toArray, List.set_cons_zero, List.set_cons_succ]
          refine take_d 70 (i := 5) (v := .pointer (some ⟨gc, 0, none⟩)) rfl (by kernel_rfl) (by kernel_rfl) (by kernel_rfl) (by kernel_rfl) (fun _ _ _ h => h) (Or.inl ⟨by kernel_rfl, fun w' hS => exec_move _ rfl (.pointer (some ⟨gc, 0, none⟩)) rfl⟩) hHeld ?_
          try simp only [Act.put, List.setIfInBounds_toArray, List.set_cons_zero, List.set_cons_succ]
          refine take_d 71 (i := 6) (v := .pointer (some ⟨gc, 0, none⟩)) rfl (by kernel_rfl) (by kernel_rfl) (by kernel_rfl) (by kernel_rfl) (fun _ _ _ h => h) (Or.inl ⟨by kernel_rfl, fun w' hS => exec_nilP _ rfl _ rfl⟩) hHeld ?_
          try simp only [Act.put, List.setIfInBounds_toArray, List.set_cons_zero, List.set_cons_succ]
          refine take_d 72 (i := 7) (v := .pointer (some ⟨gc, 51, none⟩)) rfl (by kernel_rfl) (by kernel_rfl) (by kernel_rfl) (by kernel_rfl) (fun _ _ _ h => h) (Or.inl ⟨by kernel_rfl, fun w' hS => exec_fieldG _ _ 6 51 rfl gc 0 rfl (by kernel_rfl) _ (by first | rfl | omega)⟩) hHeld ?_
          try simp only [Act.put, List.setIfInBounds_toArray, List.set_cons_zero, List.set_cons_succ]
          refine take_d 73 (i := 8) (v := .slice (some ⟨gb, 0, none⟩) m c8) rfl (by kernel_rfl) (by kernel_rfl) (by kernel_rfl) (by kernel_rfl) (fun _ _ _ h => h) (Or.inl ⟨by kernel_rfl, fun w' hS => exec_load_one _ _ rfl gc 51 rfl _ Tryd.underlying23 rfl _ hS.cellB⟩) hHeld ?_
          try simp only [Act.put, List.setIfInBounds_toArray, List.set_cons_zero, List.set_cons_succ]
          refine take_d 74 (i := 9) (v := .int .i64 ((j : Int))) rfl (by kernel_rfl) (by kernel_rfl) (by kernel_rfl) (by kernel_rfl) (fun _ _ _ h => h) (Or.inl ⟨by kernel_rfl, fun w' hS => exec_move _ rfl (.int .i64 ((j : Int))) rfl⟩) hHeld ?_
          try simp only [Act.put, List.setIfInBounds_toArray, List.set_cons_zero, List.set_cons_succ]
          refine take_d 75 (i := 10) (v := .pointer (some ⟨gb, j * 2, none⟩)) rfl (by kernel_rfl) (by kernel_rfl) (by kernel_rfl) (by kernel_rfl) (fun _ _ _ h => h) (Or.inl ⟨by kernel_rfl, fun w' hS => exec_indexG _ _ _ rfl _ m c8 gb 0 2 j rfl rfl rfl (by omega) (by kernel_rfl) _ (by omega)⟩) hHeld ?_
          try simp only [Act.put, List.setIfInBounds_toArray, List.set_cons_zero, List.set_cons_succ]
          refine take_d 76 (i := 11) (v := .pointer (some ⟨gb, j * 2, none⟩)) rfl (by kernel_rfl) (by kernel_rfl) (by kernel_rfl) (by kernel_rfl) (fun _ _ _ h => h) (Or.inl ⟨by kernel_rfl, fun w' hS => exec_fieldG _ _ 0 0 rfl gb (j * 2) rfl (by kernel_rfl) _ (by first | rfl | omega)⟩) hHeld ?_
          try simp only [Act.put, List.setIfInBounds_toArray, List.set_cons_zero, List.set_cons_succ]
          refine wpAnyH_ready (rs := [12]) (by kernel_rfl) (by simp) (AllReadyH.cons rfl (fun K hK => ?_) AllReadyH.nil)
          rw [if_pos (by kernel_rfl)]
          refine wp_valueD 77 rfl (.int .i64 X) (exec_load_one _ _ rfl gb (j * 2) rfl _ Tryd.underlying3 rfl _ HNC.out) ?_
          refine hK.out _ _ hHeld (fun hHeld => ?_)
          clear hK K
          try simp only [Act.put, List.setIfInBounds_toArray, List.set_cons_zero, List.set_cons_succ]
          refine wpAnyH_ready (rs := [13]) (by kernel_rfl) (by simp) (AllReadyH.cons rfl (fun K hK => ?_) AllReadyH.nil)
          rw [if_pos (by kernel_rfl)]
          try go_simp
          refine (within_any X 16 _ HXI.out.1 HXI.out.2 (by omega)).mono ?_
          rintro e w78 ⟨rfl, rfl⟩
          refine hK.out _ _ hHeld (fun hHeld => ?_)
          clear hK K
          try simp only [Act.put, List.setIfInBounds_toArray, List.set_cons_zero, List.set_cons_succ]
          refine take_d 79 (i := 14) (v := .pointer (some ⟨gb, j * 2, none⟩)) rfl (by kernel_rfl) (by kernel_rfl) (by kernel_rfl) (by kernel_rfl) (fun _ _ _ h => h) (Or.inl ⟨by kernel_rfl, fun w' hS => exec_indexG _ _ _ rfl _ m c8 gb 0 2 j rfl rfl rfl (by omega) (by kernel_rfl) _ (by omega)⟩) hHeld ?_
          try simp only [Act.put, List.setIfInBounds_toArray, List.set_cons_zero, List.set_cons_succ]
          refine take_d 80 (i := 15) (v := .pointer (some ⟨gb, j * 2, none⟩)) rfl (by kernel_rfl) (by kernel_rfl) (by kernel_rfl) (by kernel_rfl) (fun _ _ _ h => h) (Or.inl ⟨by kernel_rfl, fun w' hS => exec_fieldG _ _ 0 0 rfl gb (j * 2) rfl (by kernel_rfl) _ (by first | rfl | omega)⟩) hHeld ?_
          try simp only [Act.put, List.setIfInBounds_toArray, List.set_cons_zero, List.set_cons_succ]
          refine wpAnyH_ready (rs := [16]) (by kernel_rfl) (by simp) (AllReadyH.cons rfl (fun K hK => ?_) AllReadyH.nil)
          rw [if_pos (by kernel_rfl)]
          refine wp_store_bnumD _ _ rfl rfl HO.out j (j * 2) (by rw [HLL.out]; exact hjm) rfl (within X 16) rfl rfl ?_
          intro ws16 hs16 hg16
          have HO2 := hide hs16
          have HG2 := hide (grown_new HG.out hg16 hgb)
          have HX := hide (hHeld.grown hg16 (by intro e; injection e; omega))
          clear hs16 hg16
          refine hK.out _ _ HX.out (fun hHeld => ?_)
          clear HX hK K
          try simp only [Act.put, List.setIfInBounds_toArray, List.set_cons_zero, List.set_cons_succ]
          refine wpAnyH_done (by kernel_rfl) ?_ _
          rw [HSET.out] at HO2
          have hz16 := HG2.out.size
          have hz17 := HO2.out.blk_ (by rw [normB_len, HM.out]; omega)
          go_wp2_with fail
          go_roundw
          case measure => simp [intOf]; omega
          case rel =>
            refine ⟨j + 1, by go_num, by omega, HO2.out, hHeld, HG2.out, ?_⟩
            obtain ⟨_, _, h1, h2⟩ := hz17
            omega
        · obtain rfl : j = m := by omega
          have hjm1 : ¬ (j : Int) < (j : Int) := by omega
          have HOF := hide (show OwnBlbsR _ base (.slice A8 j c8) (normU qc).blobs from by have := HO.out; rw [normB_all l5 j (by rw [HM.out]; exact Nat.le_refl _), ← HNB.out] at this; exact this)
          have HU := hide (HNEXT.out _ (.slice A8 j c8) HG.out ⟨HQ.out, ⟨base, HOF.out.toB, hbz⟩, slice_no⟩ ⟨base, HOF.out, hbz⟩)
          clear HO HQ HG HOF
          go_wp2_with fail
          exact ⟨⟨i + 1, rfl, by omega, HU.out⟩, by show 2 - ((i : Int) + 1).toNat < 2 - (i : Int).toNat; omega⟩
    · obtain rfl : i = 2 := by omega
      have hi' : ¬ ((2 : Nat) : Int) < 2 := by omega
      obtain ⟨⟨ta, ba, hsa, hta⟩, ⟨tb, bb, hsb, htb⟩, hp, hbel, hlt⟩ := hinv
      rw [if_pos (by omega)] at hsa hsb
      obtain ⟨rfl, hra⟩ := hta (by omega)
      have HRR := hide hra
      clear hra
      obtain rfl := htb (by omega)
      have HA := hide hsa
      have HBq := hide hsb
      have HB := hide hbel
      have hzr := hbel.size
      have hzr' := Nat.le_trans hwg.2 hzr
      obtain ⟨xa, hxa, hxa0⟩ := HXa.out
      obtain ⟨xb, hxb, _⟩ := HXb.out
      have HXA := hide hxa
      have HXB := hide hxb
      obtain ⟨nA, HNA⟩ : ∃ q, Hid (normU qa = q) := ⟨_, hide rfl⟩
      obtain ⟨nB, HNB⟩ : ∃ q, Hid (normU qb = q) := ⟨_, hide rfl⟩
      rw [HNA.out] at HA HXA HRa HRR
      rw [HNB.out] at HBq HXB HRb
      have HTA := hide (show nA.tests = [] by rw [← HNA.out]; rfl)
      have HTB := hide (show nB.tests = [] by rw [← HNB.out]; rfl)
      clear hsa hsb hp hbel HNA HNB HMa HMb HXa HXb hxa hxb HKa HKb HKqa HKqb HOa HOb HNa HNb HQa HQb HEa HEb HFa HFb
      go_upto_if 83 with fail
      go_cut [] from 84 to 84 (fun wx => ∃ q v y, RqSt wx g4 nA nilV ba ∧ RqSt wx (g4 + 1) q nilV v ∧ Msg.RightR q ∧ Msg.askF q = some y ∧ q.tests = [] ∧ Below g4 w wx)
      case first =>
        rcases tw with _ | _
        · go_wp2_with fail
          go_meet
          exact ⟨nB, bb, xb, HA.out, HBq.out, HRb.out, HXB.out, HTB.out, HB.out⟩
        · have HVA := hide HA.out.bl.one
          have HKA := hide HA.out.rq.keys
          go_wp2_with (first
            | (refine wpList_rq_all _ rfl rfl rfl HA.out.rq ?_)
            | (refine wpList_rq_putAll _ _ rfl rfl rfl HBq.out.rq nA nilV ba rfl HKA.out rfl HVA.out ?_; intro w9 hb9 hg9 hs9))
          go_meet
          exact ⟨nA, ba, xa, ⟨HA.out.rq.grown hg9 (by intro e; injection e; omega), (HRR.out.past HBq.out.rq hg9).st, HA.out.nt⟩, ⟨hb9, (HRR.out.past HBq.out.rq hg9).st, HA.out.nt⟩, HRa.out, HXA.out, HTA.out, HB.out.grown hg9 hzr' (by intro k hk; injection hk; omega)⟩
      obtain ⟨q, vb, y, hsa, hsb, hrq, hy, htq, hbel⟩ := hcut
      have HA := hide hsa
      have HBq := hide hsb
      have HRq := hide hrq
      have HY := hide hy
      have HTQ := hide htq
      have HB := hide hbel
      clear hsa hsb hrq hy htq hbel HRR
      obtain ⟨nx, HNX⟩ : ∃ n, Hid (xa.length = n) := ⟨_, hide rfl⟩
      have hnx : 0 < nx ∧ nx ≤ 16384 := by have h1 := HNX.out; have h2 := (Msg.askF_some HXA.out).2.1; omega
      have hny := (Msg.askF_some HY.out).2.1
      have C1 := hide (fun (w' : World) (hl : BlbsB w' w'.heap.size ba nA.blobs) (ht : Tab w' w'.heap.size) => (Ask_any nA nilV ba w' (askIn_right HRa.out) (by rw [HTA.out]; exact TstsB.nil_ _ _) hl ht).mono (fun e w'' h => SayRes.u h))
      have C2 := hide (fun (w' : World) (hl : BlbsB w' w'.heap.size vb q.blobs) (ht : Tab w' w'.heap.size) => (Ask_any q nilV vb w' (askIn_right HRq.out) (by rw [HTQ.out]; exact TstsB.nil_ _ _) hl ht).mono (fun e w'' h => SayRes.u h))
      rw [HXA.out] at C1
      rw [HY.out] at C2
      have hzc := HB.out.size
      have HTc := hide ((HT.out.below (HB.out.mono hwg.1) (Nat.le_refl _)).more hzc)
      go_wp2_with (refine wpList_rq_all _ rfl rfl rfl HA.out.rq ?_)
      refine (C1.out _ HA.out.bl.reads HTc.out).mono ?_
      rintro e w5 ⟨x5, rfl, hx5, hy5, hb5⟩
      have HX := hide (show Bs w5 w5.heap.size x5 xa from hx5)
      have HYB := hide (show Bytes xa from hy5)
      replace HA := hide (HA.out.below hb5)
      replace HBq := hide (HBq.out.below hb5)
      replace HTc := hide ((HTc.out.below hb5 (Nat.le_refl _)).more hb5.size)
      replace HB := hide (HB.out.trans (hb5.mono (by omega)))
      have hz5 := hb5.size
      clear hx5 hy5 hb5 C1
      go_wp2_with (refine wpList_rq_all _ rfl rfl rfl HBq.out.rq ?_)
      refine (C2.out _ HBq.out.bl.reads HTc.out).mono ?_
      rintro e w7 ⟨x6, rfl, hx6, hy6, hb6⟩
      have HX2 := hide (show Bs w7 w7.heap.size x6 y from hx6)
      replace HX := hide ((HX.out.below hb6 (Nat.le_refl _)).more hb6.size)
      replace HA := hide (HA.out.below hb6)
      replace HBq := hide (HBq.out.below hb6)
      replace HTc := hide ((HTc.out.below hb6 (Nat.le_refl _)).more hb6.size)
      replace HB := hide (HB.out.trans (hb6.mono (by omega)))
      have hz6 := hb6.size
      have hXo := HX.out
      obtain ⟨A1, c1, rfl, hc1, _, _⟩ := hXo.open_
      rw [HNX.out] at hc1 HX ⊢
      clear hx6 hy6 hb6 C2 hXo
      have hlt4 := HA.out.rq.lt
      have hlt5 := HBq.out.rq.lt
      obtain ⟨e1, HE1⟩ : ∃ e, Hid (decide (xa = y) = e) := ⟨_, hide rfl⟩
      have HE2 := hide (show reqEq nA q = e1 from by
        rw [← HE1.out]
        by_cases h : nA = q
        · have : xa = y := by have h1 := HXA.out; rw [h, HY.out] at h1; injection h1 with h1; exact h1.symm
          rw [(reqEq_iff nA q).2 h, decide_eq_true this]
        · have : ¬ xa = y := fun h2 => h (Msg.ask_inj HRa.out HRq.out HXA.out (by rw [HY.out, h2]))
          rw [decide_eq_false this]
          cases hr : reqEq nA q
          · rfl
          · exact absurd ((reqEq_iff nA q).1 hr) h)
      have HSM := hide (fun (w' : World) (hS : Below w7.heap.size w7 w') => (same_bytes (.slice A1 nx c1) x6 xa y w' w'.heap.size ((HX.out.below hS (Nat.le_refl _)).more hS.size) ((HX2.out.below hS (Nat.le_refl _)).more hS.size) (Nat.le_refl _)).mono (fun e w'' hh => (⟨by rw [hh.1, HE1.out], hS.trans (hh.2.mono hS.size)⟩ : e = .returned (.bool e1) ∧ Below w7.heap.size w7 w'')))
      have HRQ := hide (fun (w' : World) (hS : Below w7.heap.size w7 w') => (keep_request nA q nilV ba nilV vb w' HA.out.rq.keys HBq.out.rq.keys (by rw [HTA.out]; exact TstsB.nil_ _ _) (((HA.out.below hS).bl).reads) (by rw [HTQ.out]; exact TstsB.nil_ _ _) (((HBq.out.below hS).bl).reads)).mono (fun e w'' hh => (⟨by rw [hh.1, HE2.out], hS.trans (hh.2.mono hS.size)⟩ : e = .returned (.bool e1) ∧ Below w7.heap.size w7 w'')))
      have HEE := hide (show (e1 != e1) = false by cases e1 <;> rfl)
      have HN0 := hide (show ((nx : Int) == 0) = false by have := hnx.1; simp; omega)
      have HSA := hide (show (Tryd.prog.info? 31).map (·.size) = some (reqCells nA nilV ba).length by rw [rq_len HA.out.rq.keys]; exact size_req)
      have HSQ := hide (show (Tryd.prog.info? 31).map (·.size) = some (reqCells q nilV vb).length by rw [rq_len HBq.out.rq.keys]; exact size_req)
      go_upto_region 18 with fail
      refine wp_region_qw (Below w7.heap.size w7) (by kernel_rfl) (by kernel_rfl) (Below.refl _ _).drew ?_
      refine qw_val (v := .bool true) 95 rfl (by kernel_rfl) (fun w' hS => exec_move _ rfl (.bool true) rfl) ?_
      simp only [Act.put, List.setIfInBounds_toArray, List.set_cons_zero, List.set_cons_succ]
      refine qw_val (v := .bool false) 96 rfl (by kernel_rfl) (fun w' hS => exec_notG _ _ rfl true rfl _ rfl) ?_
      simp only [Act.put, List.setIfInBounds_toArray, List.set_cons_zero, List.set_cons_succ]
      refine qw_val (v := .bool false) 97 rfl (by kernel_rfl) (fun w' hS => exec_move _ rfl (.bool false) rfl) ?_
      simp only [Act.put, List.setIfInBounds_toArray, List.set_cons_zero, List.set_cons_succ]
      refine qw_val (v := .bool true) 98 rfl (by kernel_rfl) (fun w' hS => exec_move _ rfl (.bool true) rfl) ?_
      simp only [Act.put, List.setIfInBounds_toArray, List.set_cons_zero, List.set_cons_succ]
      refine qw_val (v := .bool false) 99 rfl (by kernel_rfl) (fun w' hS => exec_notG _ _ rfl true rfl _ rfl) ?_
      simp only [Act.put, List.setIfInBounds_toArray, List.set_cons_zero, List.set_cons_succ]
      refine qw_val (v := .bool false) 100 rfl (by kernel_rfl) (fun w' hS => exec_pickG _ _ _ rfl false rfl _ rfl) ?_
      simp only [Act.put, List.setIfInBounds_toArray, List.set_cons_zero, List.set_cons_succ]
      refine qw_val (v := .bool false) 101 rfl (by kernel_rfl) (fun w' hS => exec_move _ rfl (.bool false) rfl) ?_
      simp only [Act.put, List.setIfInBounds_toArray, List.set_cons_zero, List.set_cons_succ]
      refine qw_val (v := .slice A1 nx c1) 102 rfl (by kernel_rfl) (fun w' hS => exec_move _ rfl (.slice A1 nx c1) rfl) ?_
      simp only [Act.put, List.setIfInBounds_toArray, List.set_cons_zero, List.set_cons_succ]
      refine qw_val (v := .int .i64 ((nx : Int))) 103 rfl (by kernel_rfl) (fun w' hS => exec_len _ _ _ Tryd.underlying26 rfl _ _ _ rfl) ?_
      simp only [Act.put, List.setIfInBounds_toArray, List.set_cons_zero, List.set_cons_succ]
      refine qw_val (v := .bool false) 104 rfl (by kernel_rfl) (fun w' hS => exec_eql_i64 _ _ _ _ rfl ((nx : Int)) 0 rfl rfl _ HN0.out) ?_
      simp only [Act.put, List.setIfInBounds_toArray, List.set_cons_zero, List.set_cons_succ]
      refine qw_val (v := .bool false) 105 rfl (by kernel_rfl) (fun w' hS => exec_pickG _ _ _ rfl false rfl _ rfl) ?_
      simp only [Act.put, List.setIfInBounds_toArray, List.set_cons_zero, List.set_cons_succ]
      refine qw_val (v := .bool false) 106 rfl (by kernel_rfl) (fun w' hS => exec_move _ rfl (.bool false) rfl) ?_
      simp only [Act.put, List.setIfInBounds_toArray, List.set_cons_zero, List.set_cons_succ]
      refine qw_val (v := .slice A1 nx c1) 107 rfl (by kernel_rfl) (fun w' hS => exec_move _ rfl (.slice A1 nx c1) rfl) ?_
      simp only [Act.put, List.setIfInBounds_toArray, List.set_cons_zero, List.set_cons_succ]
      refine qw_val (v := x6) 108 rfl (by kernel_rfl) (fun w' hS => exec_move _ rfl (x6) rfl) ?_
      simp only [Act.put, List.setIfInBounds_toArray, List.set_cons_zero, List.set_cons_succ]
      refine qw_call (v := .bool e1) 109 rfl (by kernel_rfl) 12 #[.slice A1 nx c1, x6] (fun w' => exec_call _ _ _ rfl _ (by simp [Act.eval]) (by go_simp)) (fun w' hS => HSM.out w' hS) ?_
      simp only [Act.put, List.setIfInBounds_toArray, List.set_cons_zero, List.set_cons_succ]
      refine qw_val (v := .agg (reqCells nA nilV ba).toArray) 110 rfl (by kernel_rfl) (fun w' hS => exec_loadAll _ _ rfl g4 0 rfl _ _ (fun j v hj => (hS.cell (p := ⟨g4, 0 + j, none⟩) hlt4).trans (HA.out.rq.range0 j v hj)) Tryd.underlying31 rfl HSA.out) ?_
      simp only [Act.put, List.setIfInBounds_toArray, List.set_cons_zero, List.set_cons_succ]
      refine qw_val (v := .agg (reqCells q nilV vb).toArray) 111 rfl (by kernel_rfl) (fun w' hS => exec_loadAll _ _ rfl ((g4 + 1)) 0 rfl _ _ (fun j v hj => (hS.cell (p := ⟨(g4 + 1), 0 + j, none⟩) hlt5).trans (HBq.out.rq.range0 j v hj)) Tryd.underlying31 rfl HSQ.out) ?_
      simp only [Act.put, List.setIfInBounds_toArray, List.set_cons_zero, List.set_cons_succ]
      refine qw_call (v := .bool e1) 112 rfl (by kernel_rfl) 22 #[.agg (reqCells nA nilV ba).toArray, .agg (reqCells q nilV vb).toArray] (fun w' => exec_call _ _ _ rfl _ (by simp [Act.eval]) (by go_simp)) (fun w' hS => HRQ.out w' hS) ?_
      simp only [Act.put, List.setIfInBounds_toArray, List.set_cons_zero, List.set_cons_succ]
      refine qw_val (v := .bool false) 113 rfl (by kernel_rfl) (fun w' hS => exec_neqB _ _ _ rfl e1 e1 rfl rfl false HEE.out) ?_
      simp only [Act.put, List.setIfInBounds_toArray, List.set_cons_zero, List.set_cons_succ]
      refine qw_val (v := .bool false) 114 rfl (by kernel_rfl) (fun w' hS => exec_pickG _ _ _ rfl false rfl _ rfl) ?_
      simp only [Act.put, List.setIfInBounds_toArray, List.set_cons_zero, List.set_cons_succ]
      refine qw_nil ?_
      intro w8 hS
      replace HX := hide ((HX.out.below hS (Nat.le_refl _)).more hS.size)
      replace HTc := hide ((HTc.out.below hS (Nat.le_refl _)).more hS.size)
      replace HB := hide (HB.out.trans (hS.mono (by omega)))
      have hz8 := hS.size
      clear hS HSM HRQ HA HBq HX2
      have hwr := within_range at_ (nx : Int) (by omega)
      have HWI := hide (within_any at_ (nx : Int) w8 HAT.out.1 HAT.out.2 (by omega))
      obtain ⟨k, hk⟩ := Int.eq_ofNat_of_zero_le hwr.1
      rw [hk] at HWI
      have hkn : k < nx := by omega
      have HCUT := hide (Msg.asked_cut HRa.out HXA.out HYB.out (k := k) (by rw [HNX.out]; exact hkn))
      have hXo := HX.out
      have HXK := hide (show Bs w8 w8.heap.size (.slice A1 k c1) (xa.take k) from by
        exact Bs.take hXo k (by rw [HNX.out]; omega))
      have HAK := hide (fun (w' : World) (h : Bs w' w'.heap.size (.slice A1 k c1) (xa.take k)) (ht : Tab w' w'.heap.size) => (Asked_any (.slice A1 k c1) (xa.take k) w' h (fun z hz => HYB.out z (List.mem_of_mem_take hz)) (by rw [List.length_take]; omega) ht).mono (fun e w'' h => AskedRes.u h))
      rw [HCUT.out] at HAK
      clear hk hwr hXo HCUT
      go_wp2_with fail
      refine HWI.out.mono ?_
      rintro e w9 ⟨rfl, rfl⟩
      have hk0 : (0 : Int) ≤ (k : Int) ∧ (k : Int) ≤ (c1 : Int) := by omega
      have hkc : k ≤ c1 := by omega
      go_wp2_with (first
        | (refine wpList_val rfl (exec_slice_to 26 5 1 Tryd.underlying26 (by kernel_rfl) _ _ rfl A1 nx c1 k rfl rfl hkc) ?_))
      refine (HAK.out _ HXK.out HTc.out).mono ?_
      rintro e w10 ⟨vt10, vb10, rfl, hk10, ht10, hx10, hb10⟩
      replace HTc := hide ((HTc.out.below hb10 (Nat.le_refl _)).more hb10.size)
      replace HB := hide (HB.out.trans (hb10.mono (by omega)))
      have hz10 := hb10.size
      have HO10 := hide (And.intro ht10.one hx10.one_)
      obtain ⟨g10, HG10⟩ : ∃ x, Hid (w10.heap.size = x) := ⟨_, hide rfl⟩
      clear hb10 HAK HXK hk10 ht10 hx10
      go_upto_region 21 with (first
        | (refine wpList_rq_zero rfl rfl ?_; intro w11 hb11 hw11 hs11; rw [HG10.out] at hb11; try rw [HG10.out]; have H11 := hide hb11; have HB11 := hide hw11; clear hb11 hw11)
        | (refine wpList_rq_putAll _ _ rfl rfl rfl H11.out req0 vt10 vb10 rfl req0_keys HO10.out.1 HO10.out.2 ?_; intro w12 hb12 hg12 hs12; have HB12 := hide (HB11.out.grown hg12 (by have := HB11.out.size; omega) (by intro k hk; injection hk; have := HG10.out; omega)); clear hb12 hg12))
      have HTd := hide ((HTc.out.below HB12.out (Nat.le_refl _)).more HB12.out.size)
      replace HB := hide (HB.out.trans (HB12.out.mono (by have := HG10.out; omega)))
      go_wp2_with go_skip
      refine (wakes17 _ HTd.out).mono ?_
      rintro e w14 ⟨rfl, hb14⟩
      have hzz := HB12.out.size
      replace HB := hide (HB.out.trans (hb14.mono (by have := HG10.out; omega)))
      clear hb14
      go_wp2_with go_skip
      go_ret
      exact ⟨rfl, HB.out.mono hwg.1⟩

set_option maxRecDepth 100000 in
theorem lifted (os : Os) (started : os.Started) (H : Type) (enc : TypeId × Value → H) :
    ReturnsInHanded {} Tryd.checked os 5 .any (fun w args => (Rows.msgsUnlikeSpec.pre enc Tryd.prog Tryd.f5 [] false w args ∧ laidMetH Tryd.prog laidD w) ∧ sizedMet enc Tryd.prog Tryd.f5 (OpenSpec.ofChange Rows.msgsUnlikeSpec) false w args)
      (Rows.msgsUnlikeSpec.post enc Tryd.prog Tryd.f5 false true false false) := by
  refine returnsInHanded_of_change_and (C := Tryd.checked) (X := fun w _ => laidMetH Tryd.prog laidD w) (fun _ _ _ hh h => h.of_heap hh) own started (by kernel_rfl) Tryd.func5
    (ChangeSpec.witness_shaped (enc := enc) (C := Tryd.checked) (os := os) (X := fun w _ => laidMetH Tryd.prog laidD w) false (World.doorLaid Tryd.prog doorSteps os) #[.agg (reqCells req0 (.slice none 0 0) (.slice none 0 0)).toArray, .agg (reqCells req0 (.slice none 0 0) (.slice none 0 0)).toArray, .bool false, .int .i64 0] 8 rfl (World.shaped_of_RefB (by kernel_rfl) (by kernel_rfl)) (by kernel_rfl) (by kernel_rfl) (by kernel_rfl) (door_met os _)) ?_
  intro W base args ds gs before hval0 hW _ _ hL _
  have hT := tab_of hL
  have hval : ∀ (j : Nat) t v, Tryd.f5.params[j]? = some t → args[j]? = some v → Value.okWide Tryd.prog W .any base t v := hval0
  have hW' := hW
  obtain ⟨p, q, hA0, hV, rfl, hfz, hnd⟩ := hW
  have hA : DataW.TrodAll enc Tryd.prog W 0 (fun _ => true) true Tryd.f5.params.toList args.toList ds p := hA0
  rw [Tryd.params5] at hA hval
  obtain ⟨v0, vs0, d0, ds0, p0, q0, hargs, rfl, rfl, h0, r0⟩ := trodAll_cons hA
  obtain ⟨v1, vs1, d1, ds1, p1, q1, rfl, rfl, rfl, h1, r1⟩ := trodAll_cons r0
  obtain ⟨v2, vs2, d2, ds2, p2, q2, rfl, rfl, rfl, h2, r2⟩ := trodAll_cons r1
  obtain ⟨v3, vs3, d3, ds3, p3, q3, rfl, rfl, rfl, h3, r3⟩ := trodAll_cons r2
  obtain ⟨rfl, rfl, rfl⟩ := trodAll_nil r3
  obtain rfl : args = #[v0, v1, v2, v3] := by cases args; simp_all
  obtain ⟨rfl, rfl⟩ := trodVars_none hV
  have k0 := h0
  have lt0 : ∀ x ∈ p0, x.block < W.heap.size := by obtain ⟨m, hm⟩ := k0; exact DataW.trod_lt m _ _ _ hm
  obtain ⟨z0, l0, rfl, w0, b0⟩ := read_req (hval 0 31 v0 rfl rfl) h0
  have k1 := h1
  have lt1 : ∀ x ∈ p1, x.block < W.heap.size := by obtain ⟨m, hm⟩ := k1; exact DataW.trod_lt m _ _ _ hm
  obtain ⟨z1, l1, rfl, w1, b1⟩ := read_req (hval 1 31 v1 rfl rfl) h1
  obtain ⟨a2, rfl, rfl, rfl⟩ := open_bool Tryd.underlying4 (hval 2 4 v2 rfl rfl) h2
  obtain ⟨a3, rfl, rfl, rfl, wf3⟩ := open_int Tryd.underlying3 (hval 3 3 v3 rfl rfl) h3
  clear hA0 hval0
  refine (walk W hT z0 l0 w0 b0 z1 l1 w1 b1 a2 a3 (in64_wf wf3)).mono fun e W' ⟨he, bel⟩ => ?_
  subst he
  exact ⟨_, rfl, _, _, _, [], _, [], hW', trodAll_mk1 (shut_bool Tryd.underlying4 _), (trodAll_cons_mk (Below.trod laidOut (by kernel_rfl) (of_decide_eq_true (by kernel_rfl)) k0 bel lt0) (trodAll_cons_mk (Below.trod laidOut (by kernel_rfl) (of_decide_eq_true (by kernel_rfl)) k1 bel lt1) (trodAll_cons_mk (shut_bool Tryd.underlying4 _) (trodAll_cons_mk (shut_int Tryd.underlying3 wf3) trodAll_mk0)))), rfl, bel.frame _, fun h => by cases h⟩

theorem over : Rows.msgsUnlikeRow.holds Tryd.pinned (OpenSpec.ofChange Rows.msgsUnlikeSpec) :=
  OpenClaim.holds_of_wide 5 Tryd.f5 rfl rfl rfl rfl rfl rfl rfl ⟨rfl, rfl, rfl, rfl, rfl⟩ rfl rfl rfl rfl rfl (by kernel_rfl) Tryd.func5 (by kernel_rfl)
    (of_decide_eq_true (by kernel_rfl)) (by unfold Func.isWrapper; rw [if_neg (of_decide_eq_false (by kernel_rfl))]; exact ⟨rfl, rfl⟩)
    (fun os started H enc _ => lifted os started H enc)

theorem proved : Rows.MsgsUnlikeCardSaid :=
  Claim7.holds_tied_plain_at .later [] Rows.msgsUnlikeCard.laidKinds true Rows.msgsUnlikeCard.stood.harness Rows.msgsUnlikeCard.stood.looks
    over (fun _ h => by cases h) (by kernel_rfl) (fun _ h => by cases h) msgsUnlike_row_tie rfl ⟨rfl, rfl⟩ (by kernel_rfl) rfl
    (fun f fn hf hfn => by
      obtain rfl : f = 5 := Option.some.inj ((show Tryd.prog.funcNamed "aumbry/aumbrylaw17.MsgsUnlike" = some 5 by kernel_rfl).symm.trans hf) |>.symm
      obtain rfl : fn = Tryd.f5 := (Option.some.inj (Tryd.func5.symm.trans hfn)).symm
      exact ⟨by kernel_rfl, fun j t ht => by
        have ht' : Tryd.f5.params[j]? = some t := ht
        rw [Tryd.params5] at ht'
        have hm : t ∈ [31, 31, 4, 3] := by simpa using Array.mem_of_getElem? ht'
        have hall : ([31, 31, 4, 3].all fun u => !Tryd.prog.wantsStandIn u) = true := by kernel_rfl
        exact (show Tryd.prog.wantsStandIn t = false by simpa using List.all_eq_true.1 hall t hm)⟩)
    (by kernel_rfl)
end Go.Proofs.YtfinfkodjkfibaaDoor.LawMsgsUnlike
