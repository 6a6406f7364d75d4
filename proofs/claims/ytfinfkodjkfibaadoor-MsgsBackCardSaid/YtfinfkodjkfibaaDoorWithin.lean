/- aumbrykeep.Within. No condition. -/
import Derived.Test.YtfinfkodjkfibaaDoorBase
import Derived.Test.YtfinfkodjkfibaaDoorRows
namespace Go.Proofs.YtfinfkodjkfibaaDoor
open Go Go.RowKit

/-- Any number as one from 0 to n - 1. -/
def within (v n : Int) : Int := if n < 1 then 0 else v % n

theorem tmod_bounds (v n : Int) (hn : ¬ n < 1) : -n < v.tmod n ∧ v.tmod n < n := by
  have h := Int.tmod_lt_of_pos v (show 0 < n by omega)
  have h' := Int.tmod_lt_of_pos (-v) (show 0 < n by omega)
  rw [Int.neg_tmod] at h'
  exact ⟨by omega, h⟩
theorem tmod_within (v n : Int) (hn : ¬ n < 1) : within v n = if v.tmod n < 0 then v.tmod n + n else v.tmod n := by
  obtain ⟨h1, h2⟩ := tmod_bounds v n hn
  have e : v % n = v.tmod n % n := by
    conv => lhs; rw [← Int.tmod_add_mul_tdiv v n]
    rw [Int.add_mul_emod_self_left]
  unfold within
  rw [if_neg hn, e]
  split
  · rw [← Int.add_emod_right, Int.emod_eq_of_lt (by omega) (by omega)]
  · rw [Int.emod_eq_of_lt (by omega) (by omega)]

set_option maxHeartbeats 400000 in
theorem within_any (v n : Int) (w : World) (h1 : -9223372036854775808 ≤ v) (h2 : v ≤ 9223372036854775807) (h4 : n ≤ 9223372036854775807) :
    Calls Tryd.prog 17 #[.int .i64 v, .int .i64 n] w fun e w' => e = .returned (.int .i64 (within v n)) ∧ w = w' := by
  go_enter Tryd.func17, Tryd.ntmps17
  by_cases hn : n < 1
  · go_wp2
    go_ret
    exact ⟨by simp [within, hn], rfl⟩
  · obtain ⟨h5, h6⟩ := tmod_bounds v n hn
    have H := hide (tmod_within v n hn)
    go_wp2
    · go_ret
      exact ⟨by rw [H.out, if_pos (by assumption)]; rfl, rfl⟩
    · go_ret
      have : 0 ≤ v.tmod n := by assumption
      exact ⟨by rw [H.out, if_neg (by omega)]; rfl, rfl⟩

end Go.Proofs.YtfinfkodjkfibaaDoor
