/- The example of the document: no bytes are no reply; the empty reply has bytes. Condition: the table of powers of ten stands. -/
import Derived.Test.YtfinfkodjkfibaaDoorMsgSaid
namespace Go.Proofs.YtfinfkodjkfibaaDoor
open Go Go.RowKit
set_option linter.unusedVariables false
set_option linter.unusedSimpArgs false
set_option maxRecDepth 100000
theorem Msg.saidP_nil : Msg.saidP [] = none := by
  rcases h : Msg.saidP [] with _ | ⟨e, l⟩
  · rfl
  · obtain ⟨_, h2⟩ := (Msg.saidP_iff (fun x hx => by cases hx) e l).1 h
    have h3 := (Msg.sayF_some h2).1
    have h4 := congrArg List.length h3
    rw [Msg.sayRows, Msg.netsF_cons, List.length_append, List.length_nil] at h4
    have h5 := netF_pos (putF e 1)
    omega
theorem Msg.sayF_zero : ∃ b, Msg.sayF 0 [] = some b ∧ 0 < b.length := by
  have hl : (netsF (Msg.sayRows 0 [])).length = 8 := by decide +kernel
  refine ⟨netsF (Msg.sayRows 0 []), ?_, by omega⟩
  unfold Msg.sayF
  rw [if_neg (by simp), if_neg (by omega)]
set_option maxHeartbeats 4000000
theorem wakes17 (w : World) (ht : Tab w w.heap.size) : Calls Tryd.prog 16 #[] w fun e w' => e = .returned (.bool true) ∧ Below w.heap.size w w' := by
  have HT := hide ht
  have HSD := hide (Said_any (.slice none 0 0) [] w (Bs.nil_ _ _) (fun x hx => by cases hx) (by simp) ht)
  rw [Msg.saidP_nil] at HSD
  obtain ⟨bz, hbz, hbl⟩ := Msg.sayF_zero
  have HSY := hide (fun (w' : World) (h : Tab w' w'.heap.size) => Say_any 0 (.slice none 0 0) [] w' (BlbsB.nil_ _ _) (fun x hx => by cases hx) (fun x hx => by cases hx) (by omega) h)
  rw [hbz] at HSY
  obtain ⟨g0, HG⟩ : ∃ k, Hid (w.heap.size = k) := ⟨_, hide rfl⟩
  clear ht hbz
  go_enter Tryd.func16, Tryd.ntmps16
  go_wp2_with fail
  refine HSD.out.mono ?_
  rintro e w1 (⟨_, _, _, h, _⟩ | ⟨_, rfl, hb1⟩)
  · cases h
  have HB := hide hb1
  have hz1 := hb1.size
  clear hb1 HSD
  go_wp2_with (first
    | (refine wpList_alloc_blk rfl 25 rfl _ zero_reply ?_; intro w2 hb2 hw2 hs2; have HR := hide hb2; replace HB := hide (HB.out.trans (hw2.mono (by omega))); clear hb2 hw2)
    | (refine wpList_st_putAll _ _ _ rfl rfl rfl HR.out [Value.int .i64 0, .slice none 0 0] rfl rfl size_reply (reply_one 0 none 0 0) ?_; intro w3 hb3 hg3 hs3; replace HB := hide (HB.out.grown hg3 (by omega) (by intro k hk; injection hk; omega)); clear hb3 hg3)
    | (refine wpList_st_build 25 _ rfl rfl [Value.int .i64 0, .slice none 0 0] built_reply0 ?_))
  refine (HSY.out _ ((HT.out.below HB.out (Nat.le_refl _)).more HB.out.size)).mono ?_
  rintro e w4 (⟨v, b, hb, rfl, hr, hb4⟩ | ⟨hn, _⟩)
  case inr => cases hn
  injection hb with hb
  subst hb
  obtain ⟨A4, c4, rfl⟩ := hr.shape
  have i0 : (0 : Int) < (bz.length : Int) := by omega
  have HB4 := hide (HB.out.trans (hb4.mono HB.out.size))
  clear hr hb4 HSY
  go_wp2_with go_skip
  go_ret
  exact ⟨rfl, HB4.out⟩
end Go.Proofs.YtfinfkodjkfibaaDoor
