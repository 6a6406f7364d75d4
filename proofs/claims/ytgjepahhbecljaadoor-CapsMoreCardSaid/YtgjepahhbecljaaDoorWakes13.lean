/- aumbrylaw13.wakes answers true. Condition: the library's table is laid. -/
import Derived.Test.YtgjepahhbecljaaDoorRight
import Derived.Test.YtgjepahhbecljaaDoorPrintRef
namespace Go.Proofs.YtgjepahhbecljaaDoor
open Go Go.RowKit
set_option linter.unusedVariables false
set_option maxRecDepth 100000

def litD : CapD := { CapD.none_ with kind := 3 }
theorem lit_in (w : World) : CapIn w litD (.slice none 0 0) :=
  { keyL := rfl, keyB := zeros_bytes 16, fpL := rfl, fpB := zeros_bytes 32, litB := fun x hx => (by cases hx), row := Bs.nil_ _ _, small := by decide }
theorem built_lit : Tryd.prog.built 28 [(0, .int .i64 3)] = some (capCells litD (.slice none 0 0)).toArray := by kernel_rfl
theorem lit_print : printS litD = { data := #[97, 117, 58, 108, 105, 116, 58] } ∧ printE litD = 0 := by
  have hv : litD.Valid := .inr (.inl ⟨rfl, by decide, rfl, rfl, rfl, rfl, rfl⟩)
  refine ⟨?_, if_pos hv⟩
  rw [printS, if_pos hv]
  rfl
set_option maxHeartbeats 2000000 in
theorem wakes13 (w : World) (ht : Tab w w.heap.size) :
    Calls Tryd.prog 18 #[] w fun e w' => e = .returned (.bool true) ∧ Below w.heap.size w w' := by
  have HP := hide (Print_any litD (.slice none 0 0) w (lit_in w) ht)
  rw [lit_print.1, lit_print.2] at HP
  clear ht
  obtain ⟨CV, HCV⟩ : ∃ x, Hid (capV litD (.slice none 0 0) = x) := ⟨_, hide rfl⟩
  rw [HCV.out] at HP
  have HBU := hide (show Tryd.prog.built 28 [(0, .int .i64 3)] = some (capCells litD (.slice none 0 0)).toArray from built_lit)
  go_enter Tryd.func18, Tryd.ntmps18
  go_wp2_with (first
    | (refine wpList_go rfl fun _ hK => wp_build _ #[(0, .const (.int .i64 3))] rfl (by simp [Act.eval, HBU.out]) ?_; simp only [List.map_toArray, List.map_cons, List.map_nil, Act.eval, HBU.out, Option.getD_some]; refine hK _ _ ?_; rw [show Value.agg (capCells litD (.slice none 0 0)).toArray = CV from HCV.out])
    | (go_at_call 16; refine HP.out.mono ?_; rintro e w1 ⟨rfl, hb1⟩; have HB := hide hb1; clear hb1))
  go_ret
  exact ⟨rfl, HB.out⟩
end Go.Proofs.YtgjepahhbecljaaDoor
