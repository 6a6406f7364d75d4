/- The example of the document on pairs of servers and shares. No condition. -/
import Derived.Test.YtoicohcomjnnfaaMm
namespace Go.Proofs.Ytoicohcomjnnfaa
open Go Go.RowKit

set_option maxHeartbeats 1000000 in
theorem wakes19 (w : World) : Calls Try.prog 18 #[] w fun e w' => e = .returned (.bool true) ∧ Below w.heap.size w w' := by
  go_enter Try.func18, Try.ntmps18
  go_wp2_with fail
  have b0 := (((Blk.new w 3 [Value.int .i64 0, Value.int .i64 1]).alloc (.cells #[Value.int .i64 0] 3)).alloc (.cells #[Value.int .i64 0] 3)).alloc (.cells #[Value.slice (some ⟨w.heap.size, 0, none⟩) 2 2, Value.slice (some ⟨w.heap.size + 1, 0, none⟩) 1 1, Value.slice (some ⟨w.heap.size + 1 + 1, 0, none⟩) 1 1] 23)
  have b1 := ((Blk.new (w.alloc (.cells #[Value.int .i64 0, Value.int .i64 1] 3)) 3 [Value.int .i64 0]).alloc (.cells #[Value.int .i64 0] 3)).alloc (.cells #[Value.slice (some ⟨w.heap.size, 0, none⟩) 2 2, Value.slice (some ⟨w.heap.size + 1, 0, none⟩) 1 1, Value.slice (some ⟨w.heap.size + 1 + 1, 0, none⟩) 1 1] 23)
  have b2 := (Blk.new ((w.alloc (.cells #[Value.int .i64 0, Value.int .i64 1] 3)).alloc (.cells #[Value.int .i64 0] 3)) 3 [Value.int .i64 0]).alloc (.cells #[Value.slice (some ⟨w.heap.size, 0, none⟩) 2 2, Value.slice (some ⟨w.heap.size + 1, 0, none⟩) 1 1, Value.slice (some ⟨w.heap.size + 1 + 1, 0, none⟩) 1 1] 23)
  have b3 := Blk.new (((w.alloc (.cells #[Value.int .i64 0, Value.int .i64 1] 3)).alloc (.cells #[Value.int .i64 0] 3)).alloc (.cells #[Value.int .i64 0] 3)) 23 [Value.slice (some ⟨w.heap.size, 0, none⟩) 2 2, Value.slice (some ⟨w.heap.size + 1, 0, none⟩) 1 1, Value.slice (some ⟨w.heap.size + 1 + 1, 0, none⟩) 1 1]
  simp only [World.size_alloc] at b1 b2 b3
  refine (match_mm _ [[0, 1], [0], [0]] _ (w.heap.size + 1 + 1 + 1 + 1) ?_ ?_).mono ?_
  · refine Rows2.of_vals (Rd.of_blk b3 (by omega) 1 3 3 rfl (by decide) (by decide)) fun i hi => ?_
    rcases i with _ | _ | _ | i
    · exact ⟨_, rfl, Ints.of_blk (xs := [0, 1]) b0 (by omega) 2 (by decide) (by decide)⟩
    · exact ⟨_, rfl, Ints.of_blk (xs := [0]) b1 (by omega) 1 (by decide) (by decide)⟩
    · exact ⟨_, rfl, Ints.of_blk (xs := [0]) b2 (by omega) 1 (by decide) (by decide)⟩
    · exfalso; simp at hi; omega
  · simp
  · rintro e w' ⟨rfl, hb⟩
    have e2 : (mmR [[0, 1], [0], [0]] fun _ => false) = 2 := by decide
    rw [e2]
    have HB := hide ((((((Below.refl w.heap.size w).alloc (Nat.le_refl _) _).alloc (by simp) _).alloc (by simp; omega) _).alloc (by simp; omega) _).trans (hb.mono (by simp; omega)))
    clear hb b0 b1 b2 b3 e2
    go_wp2_with fail
    go_ret
    exact ⟨rfl, HB.out⟩
end Go.Proofs.Ytoicohcomjnnfaa
