/- place.without: the rows without a server's ahead of one, and without a share. Condition: rows and numbers are few (below 1000). -/
import Derived.Test.YtoicohcomjnnfaaSmall
namespace Go.Proofs.Ytoicohcomjnnfaa
open Go Go.RowKit

def woRow (from_ : Int) (sh : List Int) (p : List Int × Nat) : List Int := if from_ ≤ p.2 then p.1.filter (fun n => !decide (n ∈ sh)) else []
def withoutF (l : List (List Int)) (from_ : Int) (sh : List Int) : List (List Int) := l.zipIdx.map (woRow from_ sh)
def Few (l : List (List Int)) : Prop := l.length ≤ 1000 ∧ ∀ r ∈ l, r.length ≤ 1000

theorem filter_take_succ (p : Int → Bool) (xs : List Int) (j : Nat) (hj : j < xs.length) : (xs.take (j + 1)).filter p = (xs.take j).filter p ++ (if p xs[j] = true then [xs[j]] else []) := by
  rw [List.take_succ_eq_append_getElem hj, List.filter_append]
  congr 1
  by_cases h : p xs[j] = true <;> simp [List.filter_cons, h]

set_option maxHeartbeats 2000000 in
theorem without_any (v vs : Value) (l : List (List Int)) (from_ : Int) (sh : List Int) (w : World) (B : Nat) (h : Rows2 w B v l) (hs : Ints w B vs sh) (hB : B ≤ w.heap.size) (hf : Few l) :
    Calls Try.prog 43 #[v, .int .i64 from_, vs] w (Gives fun v' w' => Own2 w' w.heap.size 23 3 v' (withoutF l from_ sh) ∧ Below w.heap.size w w') := by
  obtain ⟨A, c, rfl, h1, h2, h3⟩ := h.open_
  unfold maxLen at h2
  obtain ⟨hf1, hf2⟩ := hf
  have HF2 := hide hf2
  have HS := hide hs
  have H3 := hide h3
  clear h h3 hs hf2
  go_enter Try.func43, Try.ntmps43
  go_wp2_with fail
  go_loopw [7, 8, 9, 10, 12, 15, 22] (fun vo _ _ _ _ i _ wr => ∃ k : Nat, k ≤ l.length ∧ i = .int .i64 k ∧ Own2 wr w.heap.size 23 3 vo ((l.zipIdx.take k).map (woRow from_ sh)) ∧ Below w.heap.size w wr) (fun _ _ _ _ _ i _ _ => l.length - (intOf i).toNat)
  case atStart => exact ⟨0, Nat.zero_le _, rfl, Own2.nil_ _ _ _ _, Below.refl _ _⟩
  case round =>
    obtain ⟨k, hk, rfl, hown, hbel⟩ := hrel
    by_cases hlt : k < l.length
    · obtain ⟨b, o, rfl, hbB, hcs⟩ := H3.out (by omega)
      obtain ⟨u, hc0, hi0⟩ := hcs k hlt
      have hc : wr.cell? ⟨b, o + k, none⟩ = some u := (hbel.cell (p := ⟨b, o + k, none⟩) (by simp; omega)).trans hc0
      have hsz0 := hbel.size
      have hrl : l[k].length ≤ 1000 := HF2.out _ (List.getElem_mem hlt)
      obtain ⟨A1, c1, rfl, g1, g2, g3⟩ := (hi0.below hbel hB).open_
      unfold maxLen at g2
      have G3 := hide g3
      have HO := hide hown
      have HB := hide hbel
      clear hown hbel hcs hc0 hi0 g3
      obtain ⟨wo, rfl⟩ : ∃ wo : World, wo = wr := ⟨_, rfl⟩
      go_wp2_with fail
      go_loopw [10, 12, 22] (fun vl _ i wr => ∃ j : Nat, j ≤ l[k].length ∧ i = .int .i64 j ∧ (∃ g : List Int, g = woRow from_ sh (l[k].take j, k) ∧ wr.ownsRow wo.heap.size 3 1 vl g.length (g.map (.int .i64))) ∧ Below wo.heap.size wo wr) (fun _ _ i _ => l[k].length - (intOf i).toNat)
      case atStart => exact ⟨0, Nat.zero_le _, rfl, ⟨[], by simp [woRow], World.ownsRow_nil _ _ _ _⟩, Below.refl _ _⟩
      case round =>
        obtain ⟨j, hj, rfl, ⟨g, hg, hown⟩, hbel⟩ := hrel
        have HG := hide hg
        clear hg
        have hsr := hbel.size
        by_cases hjt : j < l[k].length
        · obtain ⟨b1, o1, rfl, hb1, hcs⟩ := G3.out (by omega)
          have hc1 : wr.cell? ⟨b1, o1 + j, none⟩ = some (.int .i64 l[k][j]) := (hbel.cell (p := ⟨b1, o1 + j, none⟩) (by simp; omega)).trans (hcs j hjt)
          have hgl : g.length ≤ 1000 := by
            rw [HG.out]; unfold woRow; split
            · exact Nat.le_trans (List.length_filter_le _ _) (by simp; omega)
            · simp
          have hst := hide (filter_take_succ (fun n => !decide (n ∈ sh)) l[k] j hjt)
          obtain ⟨x, HX⟩ : ∃ x, Hid (l[k][j] = x) := ⟨_, hide rfl⟩
          rw [HX.out] at hc1
          have HS1 := hide ((HS.out.below HB.out hB).below (hbel.mono hsz0) hB)
          have HB1 := hide hbel
          have HO1 := hide hown
          clear hcs hbel
          by_cases hfr : from_ ≤ k
          · clear hown
            go_wp2_with fail
            refine (contains_any vs sh x wr B HS1.out).mono ?_
            rintro e w' ⟨rfl, rfl⟩
            by_cases hin : x ∈ sh
            · have hb : decide (x ∈ sh) = true := by simpa using hin
              rw [hb]
              clear hb
              go_wp2_with fail
              go_roundw
              case rel =>
                refine ⟨j + 1, by omega, by go_num, ⟨g, ?_, HO1.out⟩, HB1.out⟩
                rw [HG.out]
                simp only [woRow, if_pos hfr]
                rw [hst.out, HX.out]
                simp [hin]
              case measure => simp [intOf]; omega
            · have hb : decide (x ∈ sh) = false := by simpa using hin
              rw [hb]
              clear hb
              have hoA := HO1.out.alloc (.cells #[.int .i64 x] 3)
              have hbyt : (g.length + 1) * 8 ≤ 140737488355328 := by omega
              have hbase : wo.heap.size ≤ (wr.alloc (.cells #[.int .i64 x] 3)).heap.size := by simp; omega
              go_wp2_with (at_builtin; go_must (refine wpList_append_rd _ rfl _ _ _ rfl wo.heap.size _ _ _ el_ints _ _ _ rfl hoA (wr.heap.size + 1) _ _ _ rfl (Rd.one wr 3 _) (by intro u hu; obtain rfl := List.mem_singleton.1 hu; rfl) hbyt hbase ?_))
              intro v' w3 hown3 hgr _
              have HO3 := hide (show w3.ownsRow wo.heap.size 3 1 v' (g ++ [x]).length ((g ++ [x]).map (.int .i64)) by simpa using hown3)
              have HB3 := hide ((HB1.out.alloc (by omega) _).grown hgr hbase (own_base hoA))
              clear hown3 hgr hoA
              go_wp2_with fail
              go_roundw
              case rel =>
                refine ⟨j + 1, by omega, by go_num, ⟨g ++ [x], ?_, HO3.out⟩, HB3.out⟩
                rw [HG.out]
                simp only [woRow, if_pos hfr]
                rw [hst.out, HX.out]
                simp [hin]
              case measure => simp [intOf]; omega
          · clear hown
            go_wp2_with fail
            go_roundw
            case rel =>
              refine ⟨j + 1, by omega, by go_num, ⟨g, ?_, HO1.out⟩, HB1.out⟩
              rw [HG.out]
              simp only [woRow, if_neg hfr]
            case measure => simp [intOf]; omega
        · have ej : l[k].take j = l[k] := List.take_of_length_le (by omega)
          have hz : (l.zipIdx.take (k + 1)).map (woRow from_ sh) = (l.zipIdx.take k).map (woRow from_ sh) ++ [g] := by
            rw [List.take_succ_eq_append_getElem (by simpa using hlt), List.map_append, HG.out, ej]
            simp
          have HZ := hide hz
          have hlk : ((l.zipIdx.take k).map (woRow from_ sh)).length = k := by simp; omega
          obtain ⟨A2, c2, rfl⟩ := own_shape hown
          have HB1 := hide (HB.out.trans (hbel.mono hsz0))
          obtain ⟨vs', ho, hvs⟩ := HO.out.keptB hbel
          have HV := hide hvs
          have HO2 := hide (own_more hown hsz0)
          have hoA := ho.alloc (.cells #[.slice A2 g.length c2] 23)
          have hone := hide (own_one hown)
          have hbyt : (((l.zipIdx.take k).map (woRow from_ sh)).length + 1) * 24 ≤ 140737488355328 := by omega
          have hbase : w.heap.size ≤ (wr.alloc (.cells #[.slice A2 g.length c2] 23)).heap.size := by simp; omega
          generalize (l.zipIdx.take k).map (woRow from_ sh) = R at *
          clear hlk hz ej hown hbel ho hvs
          go_wp2_with (at_builtin; go_must (refine wpList_append_rd _ rfl _ _ _ rfl w.heap.size _ _ _ el_rows _ _ _ rfl hoA (wr.heap.size + 1) _ _ _ rfl (Rd.one wr 23 _) hone.out hbyt hbase ?_))
          intro v' w2 hown2 hgr _
          have HX : Hid (Own2 w2 w.heap.size 23 3 v' (R ++ [g]) ∧ Below w.heap.size w w2) := by
            have ho1 := own_keptB HO2.out ((Below.refl _ _).alloc (Nat.le_refl _) (.cells #[.slice A2 g.length c2] 23))
            refine ⟨Own2.push (w := wr.alloc (.cells #[.slice A2 g.length c2] 23)) hoA (fun i hi => ?_) (by decide) ho1 hown2 hgr, ?_⟩
            · obtain ⟨u, hu, hx⟩ := HV.out i hi
              exact ⟨u, hu, hx.alloc _⟩
            · exact (HB1.out.alloc (by omega) _).grown hgr hbase (own_base hoA)
          clear hown2 hgr hoA
          go_wp2_with fail
          go_roundw
          case rel => exact ⟨k + 1, by omega, by go_num, by rw [HZ.out]; exact HX.out.1, HX.out.2⟩
          case measure => simp [intOf]; omega
    · have e : l.zipIdx.take k = l.zipIdx := List.take_of_length_le (by simp; omega)
      rw [e] at hown
      clear e
      go_wp2_with fail
      go_ret
      exact ⟨_, rfl, hown, hbel⟩
end Go.Proofs.Ytoicohcomjnnfaa
