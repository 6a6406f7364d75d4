/- bytes.Equal. No condition. -/
import Derived.Test.YtfinfkodjkfibaaDoorStr
namespace Go.Proofs.YtfinfkodjkfibaaDoor
open Go Go.RowKit
theorem strs_ne {a b : ByteArray} (h : ¬ a = b) : (a.toList == b.toList) = false := by
  rw [beq_eq_false_iff_ne, ByteArray.toList_eq, ByteArray.toList_eq]
  exact fun e => h (Go.WideShapes.bytes_inj e)
set_option maxRecDepth 100000
set_option maxHeartbeats 1000000 in
theorem equal_rows (va vb : Value) (xs ys : List Int) (w : World) (B : Nat) (ha : Bs w B va xs) (hb : Bs w B vb ys) (hxa : Bytes xs) (hyb : Bytes ys) (q : Bool) (hq : decide (xs = ys) = q) :
    Calls Tryd.prog 36 #[va, vb] w fun e w' => e = .returned (.bool q) ∧ Below w.heap.size w w' := by
  have HA := hide ha
  have HB := hide hb
  have HI := hide (strOf_inj hxa hyb)
  clear ha hb hxa hyb
  obtain ⟨X, HX⟩ : ∃ s, Hid (strOfNums xs = s) := ⟨_, hide rfl⟩
  obtain ⟨Y, HY⟩ : ∃ s, Hid (strOfNums ys = s) := ⟨_, hide rfl⟩
  rw [HX.out, HY.out] at HI
  have HBe := hide (Below.refl w.heap.size w)
  have HQ := hide (show (X.toList == Y.toList) = q by
    rw [← hq]
    by_cases h : X = Y
    · rw [decide_eq_true (HI.out.1 h), h]; simp
    · rw [strs_ne h, decide_eq_false (fun e => h (HI.out.2 e))])
  clear hq
  go_enter Tryd.func36, Tryd.ntmps36
  go_wp2_with (first
    | (refine wpList_to_string rfl (.tmp 5) rfl B va xs rfl HA.out ?_; rw [HX.out])
    | (refine wpList_to_string rfl (.tmp 7) rfl B vb ys rfl HB.out ?_; rw [HY.out]))
  all_goals go_ret
  all_goals exact ⟨by rw [← HQ.out]; rfl, HBe.out⟩
end Go.Proofs.YtfinfkodjkfibaaDoor
