/- Two rows of pairs held against each other. No condition. -/
import Derived.Test.YtoicohcomjnnfaaPairsLaw
import Derived.Test.YtoicohcomjnnfaaArrEq
import Derived.BigQuiet
import Derived.Deep.QuietTactic
namespace Go.Proofs.Ytoicohcomjnnfaa
open Go Go.RowKit

theorem flat2_get (ps : List (Int × Int)) (k : Nat) (hk : k < ps.length) : (flat2 ps)[k * 2]? = some (.int .i64 ps[k].1) ∧ (flat2 ps)[k * 2 + 1]? = some (.int .i64 ps[k].2) := by
  induction ps generalizing k with
  | nil => simp at hk
  | cons p ps ih =>
    cases k with
    | zero => exact ⟨rfl, rfl⟩
    | succ k =>
      have := ih k (by simpa using hk)
      simp only [flat2, List.flatMap_cons] at this ⊢
      rw [show (k + 1) * 2 = k * 2 + 2 from by omega, show k * 2 + 2 + 1 = k * 2 + 1 + 2 from by omega]
      simpa using this

theorem open_pairs {w : World} {B : Nat} {v : Value} {ps : List (Int × Int)} (h : Rd w B 2 v ps.length (flat2 ps)) :
    ∃ (A : Option Addr) (c : Nat), v = .slice A ps.length c ∧ ps.length ≤ c ∧ c ≤ maxLen ∧
      (0 < ps.length → ∃ b o, A = some ⟨b, o, none⟩ ∧ b < B ∧ ∀ j (hj : j < ps.length), w.cell? ⟨b, o + j * 2, none⟩ = some (.int .i64 ps[j].1) ∧ w.cell? ⟨b, o + j * 2 + 1, none⟩ = some (.int .i64 ps[j].2)) := by
  obtain ⟨A, c, rfl, h1, h2, _, h3⟩ := h
  refine ⟨A, c, rfl, h1, h2, fun hp => ?_⟩
  obtain ⟨b, o, rfl, hb, hc⟩ := h3 hp
  exact ⟨b, o, rfl, hb, fun j hj => ⟨hc _ _ (flat2_get ps j hj).1, hc _ _ (flat2_get ps j hj).2⟩⟩

set_option maxHeartbeats 1000000 in
theorem same2_any (va vb : Value) (ps qs : List (Int × Int)) (w : World) (B : Nat) (ha : Rd w B 2 va ps.length (flat2 ps)) (hb : Rd w B 2 vb qs.length (flat2 qs)) (hB : B ≤ w.heap.size) :
    Calls Try.prog 24 #[va, vb] w fun e w' => e = .returned (.bool (decide (ps = qs))) ∧ Below w.heap.size w w' := by
  obtain ⟨A, c, rfl, h1, h2, h3⟩ := open_pairs ha
  obtain ⟨A', c', rfl, h1', h2', h3'⟩ := open_pairs hb
  unfold maxLen at h2 h2'
  have H3 := hide h3
  have H3' := hide h3'
  clear h3 h3' ha hb
  by_cases hl : ps.length = qs.length
  · have hl' : ((ps.length : Int) != (qs.length : Int)) = false := by simp [hl]
    have HL := hide hl
    have hle : ps.length ≤ qs.length := by omega
    have hge : qs.length ≤ ps.length := by omega
    clear hl
    go_enter Try.func24, Try.ntmps24
    go_wp2_with fail
    go_loopw [5] (fun i wr => ∃ k : Nat, k ≤ ps.length ∧ i = .int .i64 k ∧ ps.take k = qs.take k ∧ Below w.heap.size w wr) (fun i _ => ps.length - (intOf i).toNat)
    case atStart => exact ⟨0, Nat.zero_le _, rfl, rfl, Below.refl _ _⟩
    case round =>
      obtain ⟨k, hk, rfl, heq, hbel⟩ := hrel
      have HE := hide heq
      have HB := hide hbel
      clear heq hbel
      by_cases hkt : k < ps.length
      · have hkt' : k < qs.length := by omega
        obtain ⟨b, o, rfl, hb, hc⟩ := H3.out (by omega)
        obtain ⟨b', o', rfl, hb', hc'⟩ := H3'.out (by omega)
        have hc1 := (HB.out.cell (p := ⟨b, o + k * 2, none⟩) (by simp; omega)).trans (hc k hkt).1
        have hc2 := (HB.out.cell (p := ⟨b, o + k * 2 + 1, none⟩) (by simp; omega)).trans (hc k hkt).2
        have hc3 := (HB.out.cell (p := ⟨b', o' + k * 2, none⟩) (by simp; omega)).trans (hc' k hkt').1
        have hc4 := (HB.out.cell (p := ⟨b', o' + k * 2 + 1, none⟩) (by simp; omega)).trans (hc' k hkt').2
        clear hc hc'
        have hn := fun W : World => run_neq_arr (P := Try.prog) W (t := 37) (e := 3) (len := 2) (k := .i64) rfl rfl (by kernel_rfl) [ps[k].1, ps[k].2] [qs[k].1, qs[k].2] rfl rfl
        simp only [List.map_cons, List.map_nil] at hn
        by_cases hpq : ps[k] = qs[k]
        · have hd : decide ([ps[k].1, ps[k].2] = [qs[k].1, qs[k].2]) = true := by rw [hpq]; simp
          rw [hd] at hn
          have HPQ := hide hpq
          clear hpq hd
          go_wp2_with fail
          go_quiet (fail)
          go_wp2_with fail
          go_roundw
          case rel => exact ⟨k + 1, by omega, by go_num, by rw [List.take_succ_eq_append_getElem hkt, List.take_succ_eq_append_getElem hkt', HE.out, HPQ.out], below_drewN HB.out _⟩
          case measure => simp [intOf]; omega
        · have hd : decide ([ps[k].1, ps[k].2] = [qs[k].1, qs[k].2]) = false := by
            rw [decide_eq_false_iff_not]
            intro e
            injection e with e1 e2
            injection e2 with e2
            exact hpq (Prod.ext e1 e2)
          rw [hd] at hn
          have HPQ := hide hpq
          clear hpq hd
          go_wp2_with fail
          go_quiet (fail)
          go_wp2_with fail
          go_ret
          refine ⟨?_, below_drewN HB.out _⟩
          have : ¬ ps = qs := fun e => HPQ.out (by subst e; rfl)
          simp [this]
      · have HZ := hide (show ps = qs by
          have := HE.out
          rwa [List.take_of_length_le (by omega), List.take_of_length_le (by omega)] at this)
        go_wp2_with fail
        go_ret
        exact ⟨by simp [HZ.out], HB.out⟩
  · have hl' : ((ps.length : Int) != (qs.length : Int)) = true := by simp; omega
    have HL := hide hl
    clear hl
    go_enter Try.func24, Try.ntmps24
    go_wp2_with fail
    go_ret
    refine ⟨?_, Below.refl _ _⟩
    have : ¬ ps = qs := fun e => HL.out (by rw [e])
    simp [this]
end Go.Proofs.Ytoicohcomjnnfaa
