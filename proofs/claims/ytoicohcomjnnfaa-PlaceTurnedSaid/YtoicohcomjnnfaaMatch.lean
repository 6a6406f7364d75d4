/- place.Match: what it computes, as a relation; and the walk. No condition. -/
import Derived.Test.YtoicohcomjnnfaaTry
namespace Go.Proofs.Ytoicohcomjnnfaa
open Go Go.RowKit

/-- The first k servers have been tried: who has each share, how many were served. -/
def MatchTo (l : List (List Int)) : Nat → List Int → Nat → Prop
  | 0, who, most => who = List.replicate 16 (-1) ∧ most = 0
  | k + 1, who', most' => ∃ who most b seen', MatchTo l k who most ∧ TryR l k (l.getD k []) (who, List.replicate 16 false) b (who', seen') ∧ most' = most + (if b = true then 1 else 0)

theorem MatchTo.ok {l : List (List Int)} : ∀ {k : Nat} {who : List Int} {most : Nat}, MatchTo l k who most → k ≤ l.length → TryOk l (who, List.replicate 16 false) ∧ most ≤ k
  | 0, who, most, h, _ => by
    obtain ⟨rfl, rfl⟩ := h
    refine ⟨⟨by simp, by simp, fun x hx => ?_⟩, Nat.le_refl _⟩
    have := (List.mem_replicate.1 hx).2
    omega
  | k + 1, who', most', h, hk => by
    obtain ⟨who, most, b, seen', h1, h2, rfl⟩ := h
    obtain ⟨i1, i2⟩ := MatchTo.ok h1 (by omega)
    have := (h2.ok i1 (by omega) (by omega)).1
    refine ⟨⟨this.1, by simp, this.2.2⟩, ?_⟩
    split <;> omega

def MatchPost (l : List (List Int)) (w : World) (e : Ending) (w' : World) : Prop := ∃ who most, e = .returned (.int .i64 (most : Nat)) ∧ MatchTo l l.length who most ∧ Below w.heap.size w w'

set_option maxHeartbeats 2000000 in
theorem match_any (v : Value) (l : List (List Int)) (w : World) (B : Nat) (h : Rows2 w B v l) (hB : B ≤ w.heap.size) :
    Calls Try.prog 19 #[v] w (MatchPost l w) := by
  obtain ⟨A, c, rfl, h1, h2, h3⟩ := h.open_
  unfold maxLen at h2
  have HR := hide h
  clear h h3
  go_enter Try.func19, Try.ntmps19
  go_wp2_with fail
  go_loopw [4, 11] (fun _ i wr => ∃ j : Nat, j ≤ 16 ∧ i = .int .i64 j ∧ Blk wr w.heap.size 66 (.slice A l.length c :: (List.replicate j (-1) ++ List.replicate (16 - j) 0).map (.int .i64)) ∧ Below w.heap.size w wr) (fun _ i _ => 16 - (intOf i).toNat)
  case atStart => exact ⟨0, Nat.zero_le _, rfl, Blk.new w _ _, (Below.refl _ _).alloc (Nat.le_refl _) _⟩
  case round =>
    obtain ⟨j, hj, rfl, hbm, hbel⟩ := hrel
    by_cases hjt : j < 16
    · have hf := hbm.frozen (1 + j)
      obtain ⟨old, hold⟩ : ∃ old, wr.cell? ⟨w.heap.size, 1 + j, none⟩ = some old := by
        rw [hbm.cell, Nat.add_comm, List.getElem?_cons_succ, List.getElem?_map, List.getElem?_eq_getElem (by simp; omega)]
        exact ⟨_, rfl⟩
      have HM := hide hbm
      have HB := hide hbel
      clear hbm hbel
      go_wp2_with fail
      go_roundw
      case rel =>
        refine ⟨j + 1, by omega, by go_num, ?_, HB.out.setCell (by simp) _⟩
        have := HM.out.set_ (1 + j) (.int .i64 (-1))
        have e : ((List.replicate j (-1 : Int) ++ List.replicate (16 - j) 0).set j (-1)) = List.replicate (j + 1) (-1) ++ List.replicate (16 - (j + 1)) 0 := by
          rw [List.set_append_right _ _ (by simp), show 16 - j = (16 - (j + 1)) + 1 from by omega, List.replicate_succ, List.replicate_succ']
          simp
        rw [← e]
        simpa [Nat.add_comm] using this
      case measure => simp [intOf]; omega
    · have ej : j = 16 := by omega
      rw [ej] at hbm
      clear ej
      have HM := hide hbm
      have HB := hide hbel
      clear hbm hbel
      obtain ⟨wo, rfl⟩ : ∃ wo : World, wo = wr := ⟨_, rfl⟩
      go_wp2_with fail
      go_loopw [5, 6, 7, 22] (fun vm _ _ i wr => ∃ (k : Nat) (who : List Int) (most : Nat), k ≤ l.length ∧ i = .int .i64 k ∧ vm = .int .i64 most ∧ MatchTo l k who most ∧ Blk wr w.heap.size 66 (.slice A l.length c :: who.map (.int .i64)) ∧ Below w.heap.size w wr) (fun _ _ _ i _ => l.length - (intOf i).toNat)
      case atStart => exact ⟨0, List.replicate 16 (-1), 0, Nat.zero_le _, rfl, rfl, ⟨rfl, rfl⟩, HM.out, HB.out⟩
      case round =>
        obtain ⟨k, who, most, hk, rfl, rfl, hmt, hbm, hbel⟩ := hrel
        have hok := hmt.ok hk
        have hmk := hok.2
        by_cases hkt : k < l.length
        · have HMT := hide hmt
          have HOK := hide hok.1
          have hlt := hbm.lt
          have hsz := hbel.size
          have HM1 := hide (hbm.alloc (.cells (List.replicate 16 (Value.bool false)).toArray 60))
          have hb1 := hbel.alloc hbel.size (.cells (List.replicate 16 (Value.bool false)).toArray 60)
          have HB1 := hide hb1
          have HR1 := hide ((HR.out.below hb1 hB).more hB)
          have HS1 := hide (Blk.new wr 60 (List.replicate 16 (Value.bool false)))
          clear hmt hok hbm hbel hb1
          go_wp2_with fail
          refine (try_any l (.slice A l.length c) w.heap.size wr.heap.size w.heap.size (by omega) (Nat.le_refl _) hsz 17 (k : Int) (who, List.replicate 16 false) _ (by show List.count false (List.replicate 16 false) < 17; decide) (by omega) (by omega) HOK.out HR1.out HM1.out HS1.out).mono ?_
          rintro e w' ⟨b, st', rfl, hR, hm, hs, hb⟩
          have HR3 := hide hR
          have HM3 := hide hm
          have HB3 := hide (HB1.out.trans hb)
          clear hR hm hs hb
          have HN := hide (show MatchTo l (k + 1) st'.1 (most + (if b = true then 1 else 0)) from ⟨who, most, b, st'.2, HMT.out, by simpa using HR3.out, rfl⟩)
          cases b
          all_goals
            go_wp2_with fail
            go_roundw
            case rel => exact ⟨k + 1, st'.1, _, by omega, by go_num, by first | rfl | go_num, HN.out, HM3.out, HB3.out⟩
            case measure => simp [intOf]; omega
        · have : k = l.length := by omega
          subst this
          go_wp2_with fail
          go_ret
          exact ⟨who, most, rfl, hmt, hbel⟩
end Go.Proofs.Ytoicohcomjnnfaa
