/- The reference's Pairs: what it computes. Condition: rows and numbers are few. -/
import Derived.Test.YtoicohcomjnnfaaPairsLaw
namespace Go.Proofs.Ytoicohcomjnnfaa
open Go Go.RowKit

theorem mem_snoc2 (os : List (Int × Int)) (a : Int) (m x : Nat) : (decide ((x : Int) ∈ os.map (·.2)) || x == m) = decide ((x : Int) ∈ (os ++ [(a, (m : Int))]).map (·.2)) := by
  rw [Bool.eq_iff_iff, Bool.or_eq_true, decide_eq_true_iff, decide_eq_true_iff, beq_iff_eq, List.map_append, List.mem_append]
  constructor
  · rintro (h | h)
    · exact .inl h
    · right; subst h; simp
  · rintro (h | h)
    · exact .inl h
    · right
      have : (x : Int) = m := by simpa using h
      omega

/-- What stands between two rounds of the reference's loop. -/
structure RpSt (l : List (List Int)) (w : World) (s : Nat) (vo vu vl : Value) (wr : World) : Prop where
  out : Prs wr w.heap.size vo (prTo l s).1
  used : ∃ u : Nat, vu = .int .i64 u ∧ u < 65536 ∧ ∀ x, u.testBit x = decide ((x : Int) ∈ (prTo l s).1.map (·.2))
  left : vl = .int .i64 ((prTo l s).2 : Nat)
  below : Below w.heap.size w wr

set_option maxHeartbeats 4000000 in
theorem refpairs_any (v : Value) (l : List (List Int)) (w : World) (B : Nat) (h : Rows2 w B v l) (hB : B ≤ w.heap.size) (hfew : Few l) :
    Calls Try.prog 25 #[v] w (Gives fun v' w' => Prs w' w.heap.size v' (pairsF l) ∧ Below w.heap.size w w') := by
  obtain ⟨A, c, rfl, h1, h2, h3⟩ := h.open_
  unfold maxLen at h2
  have hfl : l.length ≤ 1000 := hfew.1
  have HR := hide h
  have H3 := hide h3
  have HM := hide (refMatch_mm _ l w B h)
  clear h h3 hfew
  go_enter Try.func25, Try.ntmps25
  go_wp2_with fail
  refine HM.out.mono ?_
  rintro e w1 ⟨rfl, rfl⟩
  go_wp2_with fail
  go_loopw [3, 4, 5, 6, 7] (fun vo vu vl i _ wr => ∃ s : Nat, s ≤ l.length ∧ i = .int .i64 s ∧ RpSt l w s vo vu vl wr) (fun _ _ _ i _ _ => l.length - (intOf i).toNat)
  case atStart => exact ⟨0, Nat.zero_le _, rfl, World.ownsRow_nil _ _ _ _, ⟨0, rfl, by omega, fun x => by simp [prTo]⟩, rfl, Below.refl _ _⟩
  case round =>
    obtain ⟨s, hs, rfl, hst⟩ := hrel
    obtain rfl := hst.left
    have hsum := prTo_sum l s
    obtain ⟨left, HL⟩ : ∃ left, Hid ((prTo l s).2 = left) := ⟨_, hide rfl⟩
    obtain ⟨used, rfl, hu16, hub⟩ := hst.used
    have HUB := hide hub
    have HO := hide hst.out
    have HB := hide hst.below
    have hsz := hst.below.size
    rw [HL.out] at hsum ⊢
    clear hst hub
    by_cases hlt : s < l.length
    · by_cases hl0 : 0 < left
      · obtain ⟨b, o, rfl, hbB, hcs⟩ := H3.out (by omega)
        obtain ⟨u, hc0, hi0⟩ := hcs s hlt
        have hcell : wr.cell? ⟨b, o + s, none⟩ = some u := (HB.out.cell (p := ⟨b, o + s, none⟩) (by simp; omega)).trans hc0
        have HI := hide (hi0.below HB.out hB)
        have HR1 := hide (HR.out.below HB.out hB)
        clear hcs hc0 hi0
        obtain ⟨wo, rfl⟩ : ∃ wo : World, wo = wr := ⟨_, rfl⟩
        go_wp2_with fail
        go_loop [3, 4, 5, 7] (fun vo vu vl j => ∃ n : Nat, n ≤ 16 ∧ j = .int .i64 n ∧ (∀ m, m < n → prOk l s ((prTo l s).1.map (·.2)) left m = false) ∧ vu = .int .i64 used ∧ vl = .int .i64 left ∧ Prs wo w.heap.size vo (prTo l s).1) (fun _ _ _ j => 16 - (intOf j).toNat)
        case atStart => exact ⟨0, Nat.zero_le _, rfl, fun m hm => absurd hm (by omega), rfl, rfl, HO.out⟩
        case round =>
          clear HO
          obtain ⟨n, hn, rfl, hno, rfl, rfl, hout⟩ := hrel
          have HO := hide hout
          clear hout
          have HNO := hide hno
          clear hno
          by_cases hnt : n < 16
          · go_wp2_with fail
            refine (in_any u l[s] (n : Int) wo B HI.out).mono ?_
            rintro e w' ⟨rfl, rfl⟩
            by_cases hin : (n : Int) ∈ l[s]
            · have hb : decide ((n : Int) ∈ l[s]) = true := by simpa using hin
              rw [hb]
              have HIN := hide hb
              clear hb hin
              have hbt := bit_test used n hu16
              rcases hbx : used.testBit n with _ | _
              · rw [hbx] at hbt
                simp only [Bool.false_eq_true, if_false] at hbt
                have HBX := hide hbx
                clear hbx
                go_wp2_with fail
                obtain ⟨ho1, ho2⟩ := bit_or used n hu16 hnt
                have hor := hide ho1
                rw [ho1]
                clear ho1
                have hih := refmatch_any _ l B (l.length + 1) (s + 1) (used ||| 2 ^ n) wo (by omega) (by omega) ho2 HR1.out
                have ef : (used ||| 2 ^ n).testBit = fun (x : Nat) => decide ((x : Int) ∈ (prTo l s).1.map (·.2)) || x == n := by
                  rw [bit_more]
                  funext x
                  rw [HUB.out]
                rw [ef] at hih
                have hm16 := mmR_le16 (l.drop (s + 1)) (fun (x : Nat) => decide ((x : Int) ∈ (prTo l s).1.map (·.2)) || x == n)
                obtain ⟨q, HQ⟩ : ∃ q, Hid (mmR (l.drop (s + 1)) (fun (x : Nat) => decide ((x : Int) ∈ (prTo l s).1.map (·.2)) || x == n) = q) := ⟨_, hide rfl⟩
                rw [HQ.out] at hih hm16
                have HEF := hide ef
                have HIN2 := hide (show decide ((n : Int) ∈ (prTo l s).1.map (·.2)) = false by rw [← HUB.out]; exact HBX.out)
                have HOK := hide (show prOk l s ((prTo l s).1.map (·.2)) left n = decide (q + 1 = left) by
                  unfold prOk
                  rw [HIN2.out, HQ.out, getD_eq _ _ _ hlt, HIN.out]
                  simp)
                clear ef
                refine hih.mono ?_
                rintro e w' ⟨rfl, rfl⟩
                clear hih
                by_cases hq : q + 1 = left
                · have hq' : (1 + (q : Int) == (left : Int)) = true := by rw [beq_iff_eq]; omega
                  have hnext := hide (show prTo l (s + 1) = ((prTo l s).1 ++ [((s : Int), (n : Int))], left - 1) by
                    rw [prTo_succ, prStep, HL.out, if_neg (by omega), find_range_some _ 16 n hnt HNO.out (by rw [HOK.out]; simpa using hq)])
                  have HQE := hide hq
                  clear hq
                  have ho5 := HO.out
                  unfold Prs at ho5
                  have hol : (prTo l s).1.length ≤ 16 := by omega
                  obtain ⟨os, HOS⟩ : ∃ os, Hid ((prTo l s).1 = os) := ⟨_, hide rfl⟩
                  rw [HOS.out] at ho5 hol
                  have hoA5 := ho5.alloc (.cells #[.int .i64 s, .int .i64 n] 37)
                  have hbyt5 : (os.length + 1) * 16 ≤ 140737488355328 := by omega
                  have hbase5 : w.heap.size ≤ (wo.alloc (.cells #[.int .i64 s, .int .i64 n] 37)).heap.size := by simp; omega
                  have hrd5 := Rd.of_blk (Blk.new wo 37 [.int .i64 s, .int .i64 n]) (show wo.heap.size < wo.heap.size + 1 by omega) 2 1 1 rfl (by decide) (by decide)
                  clear ho5
                  go_wp2_with (at_builtin; go_must (refine wpList_append_rd _ rfl _ _ _ rfl w.heap.size _ _ _ el_pairs _ _ _ rfl hoA5 (wo.heap.size + 1) _ _ _ rfl hrd5 (by intro u hu; simp at hu; rcases hu with rfl | rfl <;> rfl) hbyt5 hbase5 ?_))
                  intro v6 w6 hown6 hgr6 _
                  have HB6 := hide (show Below w.heap.size w w6 from (HB.out.alloc (by omega) _).grown hgr6 hbase5 (own_base hoA5))
                  have HO6 := hide hown6
                  clear hown6 hgr6 hoA5 hrd5
                  have hor1 := hor.out
                  go_wp2_with fail
                  go_roundw
                  case rel =>
                    refine ⟨s + 1, by omega, by go_num, ?_, ⟨used ||| 2 ^ n, rfl, ho2, fun x => ?_⟩, ?_, HB6.out⟩
                    · unfold Prs
                      rw [hnext.out, HOS.out]
                      simp only [flat2_snoc, List.length_append, List.length_singleton]
                      exact HO6.out
                    · rw [HEF.out, hnext.out]
                      exact mem_snoc2 _ _ _ _
                    · rw [hnext.out]
                      go_num
                  case measure => simp [intOf]; omega
                · have hq' : (1 + (q : Int) == (left : Int)) = false := by rw [beq_eq_false_iff_ne]; omega
                  have hqd : decide (q + 1 = left) = false := by simpa using hq
                  have HQD := hide hqd
                  clear hqd hq
                  go_wp2_with fail
                  go_round
                  case rel =>
                    refine ⟨n + 1, by omega, by go_num, fun m hm => ?_, rfl, rfl, HO.out⟩
                    rcases Nat.lt_or_ge m n with h | h
                    · exact HNO.out m h
                    · have : m = n := by omega
                      subst this
                      rw [HOK.out, HQD.out]
                  case measure => simp [intOf]; omega
              · rw [hbx] at hbt
                simp only [if_true] at hbt
                have HBX := hide hbx
                clear hbx
                go_wp2_with fail
                go_round
                case rel =>
                  refine ⟨n + 1, by omega, by go_num, fun m hm => ?_, rfl, rfl, HO.out⟩
                  rcases Nat.lt_or_ge m n with h | h
                  · exact HNO.out m h
                  · have : m = n := by omega
                    subst this
                    unfold prOk
                    rw [← HUB.out, HBX.out]
                    simp
                case measure => simp [intOf]; omega
            · have hb : decide ((n : Int) ∈ l[s]) = false := by simpa using hin
              rw [hb]
              have HIN := hide hb
              clear hb hin
              go_wp2_with fail
              go_round
              case rel =>
                refine ⟨n + 1, by omega, by go_num, fun m hm => ?_, rfl, rfl, HO.out⟩
                rcases Nat.lt_or_ge m n with h | h
                · exact HNO.out m h
                · have : m = n := by omega
                  subst this
                  unfold prOk
                  rw [getD_eq _ _ _ hlt, HIN.out]
                  simp
              case measure => simp [intOf]; omega
          · have hnext := hide (show prTo l (s + 1) = prTo l s by
              rw [prTo_succ, prStep, HL.out, if_neg (by omega), find_range_none _ 16 (fun m hm => HNO.out m (by omega))])
            go_wp2_with fail
            go_roundw
            case rel =>
              refine ⟨s + 1, by omega, by go_num, ?_, ⟨used, rfl, hu16, ?_⟩, ?_, ?_⟩
              · rw [hnext.out]; exact HO.out
              · rw [hnext.out]; exact HUB.out
              · rw [hnext.out, HL.out]
              · exact HB.out
            case measure => simp [intOf]; omega
      · have e : pairsF l = (prTo l s).1 := by
          have := prTo_done l s (l.length - s) (by rw [HL.out]; omega)
          rw [show s + (l.length - s) = l.length from by omega] at this
          unfold pairsF
          rw [this]
        go_wp2_with fail
        go_ret
        exact ⟨_, rfl, by rw [e]; exact HO.out, HB.out⟩
    · have e : s = l.length := by omega
      subst e
      go_wp2_with fail
      go_ret
      exact ⟨_, rfl, HO.out, HB.out⟩
end Go.Proofs.Ytoicohcomjnnfaa
