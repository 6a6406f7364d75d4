/- place.Pairs: what it computes. Condition: rows and numbers are few. -/
import Derived.Test.YtoicohcomjnnfaaPairsLaw
namespace Go.Proofs.Ytoicohcomjnnfaa
open Go Go.RowKit

/-- What stands between two rounds of the pairs' loop. -/
structure PrSt (l : List (List Int)) (w : World) (s : Nat) (vo vu vl : Value) (wr : World) : Prop where
  out : Prs wr w.heap.size vo (prTo l s).1
  used : wr.ownsRow w.heap.size 3 1 vu ((prTo l s).1.map (·.2)).length (((prTo l s).1.map (·.2)).map (.int .i64))
  left : vl = .int .i64 ((prTo l s).2 : Nat)
  below : Below w.heap.size w wr

theorem PrSt.kept {l : List (List Int)} {w : World} {s : Nat} {vo vu vl : Value} {wr w' : World} (h : PrSt l w s vo vu vl wr) (hb : Below wr.heap.size wr w') : PrSt l w s vo vu vl w' :=
  ⟨own_keptB h.out hb, own_keptB h.used hb, h.left, h.below.trans (hb.mono h.below.size)⟩

set_option maxHeartbeats 4000000 in
theorem pairs_any (v : Value) (l : List (List Int)) (w : World) (B : Nat) (h : Rows2 w B v l) (hB : B ≤ w.heap.size) (hfew : Few l) :
    Calls Try.prog 22 #[v] w (Gives fun v' w' => Prs w' w.heap.size v' (pairsF l) ∧ Below w.heap.size w w') := by
  obtain ⟨A, c, rfl, h1, h2, h3⟩ := h.open_
  unfold maxLen at h2
  have HF := hide hfew
  have hfl : l.length ≤ 1000 := hfew.1
  have HR := hide h
  have H3 := hide h3
  have HM := hide (match_mm _ l w B h hB)
  clear h h3 hfew
  go_enter Try.func22, Try.ntmps22
  go_wp2_with fail
  refine HM.out.mono ?_
  rintro e w1 ⟨rfl, hb1⟩
  have HB1 := hide hb1
  clear hb1
  go_wp2_with fail
  go_loopw [3, 4, 5, 6, 7, 20] (fun vo vu vl i _ _ wr => ∃ s : Nat, s ≤ l.length ∧ i = .int .i64 s ∧ PrSt l w s vo vu vl wr) (fun _ _ _ i _ _ _ => l.length - (intOf i).toNat)
  case atStart => exact ⟨0, Nat.zero_le _, rfl, World.ownsRow_nil _ _ _ _, World.ownsRow_nil _ _ _ _, rfl, HB1.out⟩
  case round =>
    obtain ⟨s, hs, rfl, hst⟩ := hrel
    obtain rfl := hst.left
    have hsum := prTo_sum l s
    obtain ⟨left, HL⟩ : ∃ left, Hid ((prTo l s).2 = left) := ⟨_, hide rfl⟩
    have HST := hide hst
    rw [HL.out] at hsum ⊢
    clear hst
    by_cases hlt : s < l.length
    · by_cases hl0 : 0 < left
      · obtain ⟨b, o, rfl, hbB, hcs⟩ := H3.out (by omega)
        obtain ⟨u, hc0, hi0⟩ := hcs s hlt
        have HC := hide hc0
        have HI := hide hi0
        clear hcs hc0 hi0
        obtain ⟨wo, rfl⟩ : ∃ wo : World, wo = wr := ⟨_, rfl⟩
        have hd1 : s ≤ l.length := hs
        go_wp2_with fail
        go_loopw [3, 4, 5, 7, 20] (fun vo vu vl _ j wr => ∃ n : Nat, n ≤ 16 ∧ j = .int .i64 n ∧ (∀ m, m < n → prOk l s ((prTo l s).1.map (·.2)) left m = false) ∧ vl = .int .i64 (left : Nat) ∧ PrSt l w s vo vu (.int .i64 ((prTo l s).2 : Nat)) wr) (fun _ _ _ _ j _ => 16 - (intOf j).toNat)
        case atStart => exact ⟨0, Nat.zero_le _, rfl, fun m hm => absurd hm (by omega), rfl, HST.out⟩
        case round =>
          obtain ⟨n, hn, rfl, hno, rfl, hst⟩ := hrel
          have HNO := hide hno
          have HST := hide hst
          clear hno hst
          by_cases hnt : n < 16
          · have hcell : wr.cell? ⟨b, o + s, none⟩ = some u := (HST.out.below.cell (p := ⟨b, o + s, none⟩) (by simp; omega)).trans HC.out
            have hsz := HST.out.below.size
            obtain ⟨used, HU⟩ : ∃ used, Hid ((prTo l s).1.map (·.2) = used) := ⟨_, hide rfl⟩
            have hul : used.length ≤ 16 := by rw [← HU.out]; simp; omega
            have hown := HST.out.used
            rw [HU.out] at hown
            have HO := hide hown
            have HU1 := hide (Ints.of_own hown)
            have HI1 := hide (HI.out.below HST.out.below hB)
            clear hown
            go_wp2_with fail
            refine (contains_any u l[s] (n : Int) wr B HI1.out).mono ?_
            rintro e w' ⟨rfl, rfl⟩
            by_cases hin : (n : Int) ∈ l[s]
            · have hb : decide ((n : Int) ∈ l[s]) = true := by simpa using hin
              rw [hb]
              have HIN := hide hb
              clear hb hin
              go_wp2_with fail
              refine (contains_any _ used (n : Int) wr _ HU1.out).mono ?_
              rintro e w' ⟨rfl, rfl⟩
              by_cases hin : (n : Int) ∈ used
              · have hb : decide ((n : Int) ∈ used) = true := by simpa using hin
                rw [hb]
                have HIN2 := hide hb
                clear hb hin
                go_wp2_with fail
                go_roundw
                case rel =>
                  refine ⟨n + 1, by omega, by go_num, fun m hm => ?_, rfl, HST.out⟩
                  rcases Nat.lt_or_ge m n with h | h
                  · exact HNO.out m h
                  · have : m = n := by omega
                    subst this
                    unfold prOk
                    rw [HU.out, HIN2.out]
                    simp
                case measure => simp [intOf]; omega
              · have hb : decide ((n : Int) ∈ used) = false := by simpa using hin
                rw [hb]
                have HIN2 := hide hb
                clear hb hin
                go_wp2_with fail
                refine (clone_ints _ used wr _ HU1.out (Nat.le_refl _) (by omega)).mono ?_
                rintro e w2 ⟨v2, rfl, ho2, hb2⟩
                have HST2 := hide (HST.out.kept hb2)
                have hsz2 := hb2.size
                have hoA := ho2.alloc (.cells #[.int .i64 n] 3)
                have hbyt : (used.length + 1) * 8 ≤ 140737488355328 := by omega
                have hbase : wr.heap.size ≤ (w2.alloc (.cells #[.int .i64 n] 3)).heap.size := by simp; omega
                have HB2 := hide hb2
                clear ho2 hb2
                go_wp2_with (at_builtin; go_must (refine wpList_append_rd _ rfl _ _ _ rfl wr.heap.size _ _ _ el_ints _ _ _ rfl hoA (w2.heap.size + 1) _ _ _ rfl (Rd.one w2 3 _) (by intro u hu; obtain rfl := List.mem_singleton.1 hu; rfl) hbyt hbase ?_))
                intro v3 w3 hown3 hgr _
                have HO3 := hide (show w3.ownsRow wr.heap.size 3 1 v3 (used ++ [(n : Int)]).length ((used ++ [(n : Int)]).map (.int .i64)) by simpa using hown3)
                have hb3 : Below wr.heap.size wr w3 := (HB2.out.alloc (by omega) _).grown hgr hbase (own_base hoA)
                have HB3 := hide hb3
                have HST3 := hide (HST.out.kept hb3)
                have hsz3 := hb3.size
                have HR3 := hide ((HR.out.below HST.out.below hB).below hb3 (by omega))
                clear hown3 hgr hoA hb3
                go_wp2_with fail
                refine (without_any _ v3 l ((s : Int) + 1) (used ++ [(n : Int)]) w3 w3.heap.size (HR3.out.more (by omega)) (Ints.of_own HO3.out) (Nat.le_refl _) HF.out).mono ?_
                rintro e w4 ⟨v4, rfl, ho4, hb4⟩
                have HB4 := hide (HB3.out.trans (hb4.mono hsz3))
                have hsz4 := hb4.size
                have HR4 := hide ho4.reads
                clear ho4 hb4
                go_wp2_with fail
                refine (match_mm v4 _ w4 _ HR4.out (Nat.le_refl _)).mono ?_
                rintro e w5 ⟨rfl, hb5⟩
                have hb5' := HB4.out.trans (hb5.mono (by omega))
                have HST5 := hide (HST.out.kept hb5')
                have em : (mmR (withoutF l ((s : Int) + 1) (used ++ [(n : Int)])) fun _ => false) = mmR (l.drop (s + 1)) (fun x => decide ((x : Int) ∈ used) || x == n) := by
                  have := mm_without l (s + 1) (used ++ [(n : Int)]) (by omega)
                  rw [show (((s + 1 : Nat)) : Int) = (s : Int) + 1 from by omega] at this
                  rw [this]
                  congr 1
                  funext x
                  by_cases hx : x = n
                  · subst hx; simp
                  · have : ¬ (x : Int) = n := by omega
                    simp [hx, this]
                rw [em]
                have hm16 := mmR_le16 (l.drop (s + 1)) (fun x => decide ((x : Int) ∈ used) || x == n)
                obtain ⟨q, HQ⟩ : ∃ q, Hid (mmR (l.drop (s + 1)) (fun x => decide ((x : Int) ∈ used) || x == n) = q) := ⟨_, hide rfl⟩
                rw [HQ.out] at hm16 ⊢
                have HOK := hide (show prOk l s ((prTo l s).1.map (·.2)) left n = decide (q + 1 = left) by
                  unfold prOk
                  rw [HU.out, HIN2.out, HQ.out, getD_eq _ _ _ hlt, HIN.out]
                  simp)
                clear hb5 hb5' em
                by_cases hq : q + 1 = left
                · have hq' : ((q : Int) == (left : Int) - 1) = true := by rw [beq_iff_eq]; omega
                  have hnext := hide (show prTo l (s + 1) = ((prTo l s).1 ++ [((s : Int), (n : Int))], left - 1) by
                    rw [prTo_succ, prStep, HL.out, if_neg (by omega), find_range_some _ 16 n hnt HNO.out (by rw [HOK.out]; simpa using hq)])
                  have HQE := hide hq
                  clear hq
                  have ho5 := HST5.out.out
                  unfold Prs at ho5
                  have hu5 := HST5.out.used
                  have hul5 : ((prTo l s).1.map (·.2)).length ≤ 16 := by rw [HU.out]; exact hul
                  have hol : (prTo l s).1.length ≤ 16 := by omega
                  have hszw5 := HST5.out.below.size
                  obtain ⟨os, HOS⟩ : ∃ os, Hid ((prTo l s).1 = os) := ⟨_, hide rfl⟩
                  rw [HOS.out] at ho5 hu5 hul5 hol
                  obtain ⟨us, HUS⟩ : ∃ us, Hid (os.map (·.2) = us) := ⟨_, hide rfl⟩
                  rw [HUS.out] at hu5 hul5
                  have hb5 := HST5.out.below
                  have HU5 := hide hu5
                  have HO5 := hide ho5
                  have HB5 := hide hb5
                  have hoA5 := ho5.alloc (.cells #[.int .i64 s, .int .i64 n] 37)
                  have hbyt5 : (os.length + 1) * 16 ≤ 140737488355328 := by omega
                  have hbase5 : w.heap.size ≤ (w5.alloc (.cells #[.int .i64 s, .int .i64 n] 37)).heap.size := by simp; omega
                  have hrd5 := Rd.of_blk (Blk.new w5 37 [.int .i64 s, .int .i64 n]) (show w5.heap.size < w5.heap.size + 1 by omega) 2 1 1 rfl (by decide) (by decide)
                  clear ho5 hu5 hb5
                  go_wp2_with (at_builtin; go_must (refine wpList_append_rd _ rfl _ _ _ rfl w.heap.size _ _ _ el_pairs _ _ _ rfl hoA5 (w5.heap.size + 1) _ _ _ rfl hrd5 (by intro u hu; simp at hu; rcases hu with rfl | rfl <;> rfl) hbyt5 hbase5 ?_))
                  intro v6 w6 hown6 hgr6 _
                  have hu6 := (HU5.out.alloc (.cells #[.int .i64 s, .int .i64 n] 37)).kept hgr6 (own_ne (HU5.out.alloc _) hoA5 (by decide))
                  have hb6 : Below w.heap.size w w6 := (HB5.out.alloc (by omega) _).grown hgr6 hbase5 (own_base hoA5)
                  have HO6 := hide hown6
                  have HU6 := hide hu6
                  have HB6 := hide hb6
                  have hsz6 := hb6.size
                  have hoA6 := hu6.alloc (.cells #[.int .i64 n] 3)
                  have hbyt6 : (us.length + 1) * 8 ≤ 140737488355328 := by omega
                  have hbase6 : w.heap.size ≤ (w6.alloc (.cells #[.int .i64 n] 3)).heap.size := by simp; omega
                  clear hown6 hgr6 hoA5 hrd5 hu6 hb6
                  go_wp2_with (at_builtin; go_must (refine wpList_append_rd _ rfl _ _ _ rfl w.heap.size _ _ _ el_ints _ _ _ rfl hoA6 (w6.heap.size + 1) _ _ _ rfl (Rd.one w6 3 _) (by intro u hu; obtain rfl := List.mem_singleton.1 hu; rfl) hbyt6 hbase6 ?_))
                  intro v7 w7 hown7 hgr7 _
                  have HO7 := hide ((HO6.out.alloc (.cells #[.int .i64 n] 3)).kept hgr7 (own_ne (HO6.out.alloc _) hoA6 (by decide)))
                  have HU7 := hide hown7
                  have HB7 := hide (show Below w.heap.size w w7 from (HB6.out.alloc (by omega) _).grown hgr7 hbase6 (own_base hoA6))
                  clear hown7 hgr7 hoA6
                  go_wp2_with fail
                  go_roundw
                  case rel =>
                    refine ⟨s + 1, by omega, by go_num, ?_, ?_, ?_, HB7.out⟩
                    · unfold Prs
                      rw [hnext.out, HOS.out]
                      simp only [flat2_snoc, List.length_append, List.length_singleton]
                      exact HO7.out
                    · rw [hnext.out, HOS.out]
                      simp only [List.map_append, HUS.out, List.length_append, List.map_cons, List.map_nil, List.length_singleton]
                      exact HU7.out
                    · rw [hnext.out]
                      go_num
                  case measure => simp [intOf]; omega
                · have hq' : ((q : Int) == (left : Int) - 1) = false := by rw [beq_eq_false_iff_ne]; omega
                  have hqd : decide (q + 1 = left) = false := by simpa using hq
                  have HQD := hide hqd
                  clear hqd hq
                  go_wp2_with fail
                  go_roundw
                  case rel =>
                    refine ⟨n + 1, by omega, by go_num, fun m hm => ?_, rfl, HST5.out⟩
                    rcases Nat.lt_or_ge m n with h | h
                    · exact HNO.out m h
                    · have : m = n := by omega
                      subst this
                      rw [HOK.out, HQD.out]
                  case measure => simp [intOf]; omega
            · have hb : decide ((n : Int) ∈ l[s]) = false := by simpa using hin
              rw [hb]
              have HIN := hide hb
              clear hb hin
              go_wp2_with fail
              go_roundw
              case rel =>
                refine ⟨n + 1, by omega, by go_num, fun m hm => ?_, rfl, HST.out⟩
                rcases Nat.lt_or_ge m n with h | h
                · exact HNO.out m h
                · have : m = n := by omega
                  subst this
                  unfold prOk
                  rw [getD_eq _ _ _ hlt, HIN.out]
                  simp
              case measure => simp [intOf]; omega
          · have hnext := hide (show prTo l (s + 1) = prTo l s by
              rw [prTo_succ, prStep, HL.out, if_neg (by omega), find_range_none _ 16 (fun m hm => HNO.out m (by omega))])
            go_wp2_with fail
            go_roundw
            case rel =>
              refine ⟨s + 1, by omega, by go_num, ?_, ?_, ?_, ?_⟩
              · rw [hnext.out]; exact HST.out.out
              · rw [hnext.out]; exact HST.out.used
              · rw [hnext.out, HL.out]
              · exact HST.out.below
            case measure => simp [intOf]; omega
      · have e : pairsF l = (prTo l s).1 := by
          have := prTo_done l s (l.length - s) (by rw [HL.out]; omega)
          rw [show s + (l.length - s) = l.length from by omega] at this
          unfold pairsF
          rw [this]
        go_wp2_with fail
        go_ret
        exact ⟨_, rfl, by rw [e]; exact HST.out.out, HST.out.below⟩
    · have e : s = l.length := by omega
      subst e
      go_wp2_with fail
      go_ret
      exact ⟨_, rfl, HST.out.out, HST.out.below⟩
end Go.Proofs.Ytoicohcomjnnfaa
