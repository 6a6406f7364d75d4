/- The first rows of pairs are right: as many as there can be, none twice; rows more or fewer. Plain law. -/
import Derived.Test.YtoicohcomjnnfaaPairsLaw
import Derived.Test.YtoicohcomjnnfaaLossLaw
namespace Go.Proofs.Ytoicohcomjnnfaa
open Go Go.RowKit

structure PrOk (l : List (List Int)) (s : Nat) (st : List (Int × Int) × Nat) : Prop where
  left : st.2 = mmR (l.drop s) (fun x => decide ((x : Int) ∈ st.1.map (·.2)))
  each : ∀ p ∈ st.1, 0 ≤ p.1 ∧ p.1 < s ∧ 0 ≤ p.2 ∧ p.2 < 16 ∧ p.2 ∈ l.getD p.1.toNat []
  pair : st.1.Pairwise fun p q => p.1 < q.1 ∧ p.2 ≠ q.2

theorem prTo_ok (l : List (List Int)) (s : Nat) (hs : s ≤ l.length) : PrOk l s (prTo l s) := by
  induction s with
  | zero => exact ⟨by simp [prTo], fun p hp => by simp [prTo] at hp, by simp [prTo]⟩
  | succ s ih =>
    have hlt : s < l.length := by omega
    obtain ⟨h1, h2, h3⟩ := ih (by omega)
    rw [prTo_succ]
    generalize prTo l s = st at *
    have ed : l.drop s = l[s] :: l.drop (s + 1) := List.drop_eq_getElem_cons hlt
    rw [ed, mmR] at h1
    obtain ⟨m1, m2, m3⟩ := fold_max (fun n => 0 ≤ n ∧ n < 16 ∧ decide (((n.toNat : Nat) : Int) ∈ st.1.map (·.2)) = false) (fun n => 1 + mmR (l.drop (s + 1)) (fun x => decide ((x : Int) ∈ st.1.map (·.2)) || x == n.toNat)) l[s] (mmR (l.drop (s + 1)) (fun x => decide ((x : Int) ∈ st.1.map (·.2))))
    rw [← h1] at m1 m2 m3
    have each' : ∀ p ∈ st.1, 0 ≤ p.1 ∧ p.1 < (s + 1 : Nat) ∧ 0 ≤ p.2 ∧ p.2 < 16 ∧ p.2 ∈ l.getD p.1.toNat [] := fun p hp => by
      obtain ⟨a, b, c, d, e⟩ := h2 p hp
      exact ⟨a, by omega, c, d, e⟩
    unfold prStep
    by_cases h0 : st.2 = 0
    · rw [if_pos h0]
      exact ⟨by omega, each', h3⟩
    · rw [if_neg h0]
      cases hf : (List.range 16).find? (prOk l s (st.1.map (·.2)) st.2) with
      | none =>
        refine ⟨?_, each', h3⟩
        rcases m3 with m3 | ⟨n, hn, hc, e⟩
        · exact m3
        · exfalso
          have := List.find?_eq_none.1 hf n.toNat (List.mem_range.2 (by omega))
          refine this ?_
          unfold prOk
          rw [getD_eq _ _ _ hlt, Int.toNat_of_nonneg hc.1]
          have hc2 := hc.2.2
          rw [Int.toNat_of_nonneg hc.1] at hc2
          rw [hc2]
          simp only [Bool.not_false, Bool.and_true, Bool.and_eq_true, decide_eq_true_eq]
          exact ⟨hn, by omega⟩
      | some n =>
        have hp := List.find?_some hf
        have hn := List.mem_range.1 (List.mem_of_find?_eq_some hf)
        unfold prOk at hp
        simp only [Bool.and_eq_true, decide_eq_true_eq, Bool.not_eq_true', decide_eq_false_iff_not] at hp
        obtain ⟨⟨p1, p2⟩, p3⟩ := hp
        refine ⟨?_, fun p hp => ?_, ?_⟩
        · have e : (fun (x : Nat) => decide ((x : Int) ∈ (st.1 ++ [((s : Int), (n : Int))]).map (·.2))) = fun (x : Nat) => decide ((x : Int) ∈ st.1.map (·.2)) || x == n := by
            funext x
            rw [Bool.eq_iff_iff, Bool.or_eq_true, decide_eq_true_iff, decide_eq_true_iff, beq_iff_eq, List.map_append, List.mem_append]
            constructor
            · rintro (h | h)
              · exact .inl h
              · right
                have : (x : Int) = n := by simpa using h
                omega
            · rintro (h | h)
              · exact .inl h
              · right; subst h; simp
          rw [e]
          simp only
          omega
        · rcases List.mem_append.1 hp with hp | hp
          · exact each' p hp
          · obtain rfl := List.mem_singleton.1 hp
            exact ⟨by simp only; omega, by simp only; omega, by simp only; omega, by simp only; omega, by simpa using p1⟩
        · rw [List.pairwise_append]
          refine ⟨h3, by simp, fun p hp q hq => ?_⟩
          obtain rfl := List.mem_singleton.1 hq
          refine ⟨(h2 p hp).2.1, fun e => p2 ?_⟩
          exact List.mem_map.2 ⟨p, hp, e⟩

theorem pairsF_len (l : List (List Int)) : (pairsF l).length = mmR l fun _ => false := by
  have h := (prTo_ok l l.length (Nat.le_refl _)).left
  rw [List.drop_length] at h
  have hs : (prTo l l.length).1.length + (prTo l l.length).2 = mmR l fun _ => false := by
    have : ∀ s, (prTo l s).1.length + (prTo l s).2 = mmR l fun _ => false := by
      intro s
      induction s with
      | zero => simp [prTo]
      | succ s ih => rw [prTo_succ, prStep_sum, ih]
    exact this _
  have : mmR [] (fun x => decide ((x : Int) ∈ (prTo l l.length).1.map (·.2))) = 0 := rfl
  unfold pairsF
  omega

theorem pairsF_get (l : List (List Int)) (i : Nat) (hi : i < (pairsF l).length) :
    0 ≤ (pairsF l)[i].1 ∧ (pairsF l)[i].1 < l.length ∧ 0 ≤ (pairsF l)[i].2 ∧ (pairsF l)[i].2 < 16 ∧ (pairsF l)[i].2 ∈ l.getD (pairsF l)[i].1.toNat [] :=
  (prTo_ok l l.length (Nat.le_refl _)).each _ (List.getElem_mem hi)
theorem pairsF_two (l : List (List Int)) (k i : Nat) (hk : k < i) (hi : i < (pairsF l).length) : (pairsF l)[k].1 < (pairsF l)[i].1 ∧ (pairsF l)[k].2 ≠ (pairsF l)[i].2 :=
  List.pairwise_iff_getElem.1 (prTo_ok l l.length (Nat.le_refl _)).pair k i (Nat.lt_trans hk hi) hi hk

theorem mm_le_len (l : List (List Int)) : (mmR l fun _ => false) ≤ l.length := by
  obtain ⟨⟨f, hf, e⟩, _⟩ := mmR_max l
  have h := countP_gone f hf.inj ((List.range l.length).map fun (n : Nat) => (n : Int))
  have h2 : sz f ≤ (List.range 16).countP (fun n => decide (0 ≤ f n) && decide (f n ∈ (List.range l.length).map fun (n : Nat) => (n : Int))) := by
    refine List.countP_mono_left fun n hn h => ?_
    have h0 : 0 ≤ f n := by simpa using h
    have := (hf.ok n (List.mem_range.1 hn) h0).1
    simp only [Bool.and_eq_true, decide_eq_true_eq]
    exact ⟨h0, List.mem_map.2 ⟨(f n).toNat, List.mem_range.2 this, Int.toNat_of_nonneg h0⟩⟩
  simp only [List.length_map, List.length_range] at h
  omega

theorem mm_more (l : List (List Int)) (r : List Int) : (mmR l fun _ => false) ≤ (mmR (l ++ [r]) fun _ => false) ∧ (mmR (l ++ [r]) fun _ => false) ≤ (mmR l fun _ => false) + 1 := by
  obtain ⟨⟨f, hf, e⟩, hm⟩ := mmR_max l
  obtain ⟨⟨f', hf', e'⟩, hm'⟩ := mmR_max (l ++ [r])
  constructor
  · rw [← e]
    refine hm' f ⟨fun n hn h0 => ?_, hf.inj⟩
    obtain ⟨a, b, c⟩ := hf.ok n hn h0
    refine ⟨by simp; omega, ?_, c⟩
    rw [List.getD_eq_getElem?_getD, List.getElem?_append_left a, ← List.getD_eq_getElem?_getD]
    exact b
  · rw [← e']
    have h := hm (fun n => if f' n = l.length then -1 else f' n) ⟨fun n hn h0 => ?_, fun n m hn hm h0 e => ?_⟩
    · have h4 : sz f' ≤ sz (fun n => if f' n = l.length then -1 else f' n) + (List.range 16).countP (fun n => decide (f' n = l.length)) := by
        refine countP_le_add _ _ _ _ fun n hn h => ?_
        by_cases e : f' n = l.length
        · right; simpa using e
        · left; simp only [if_neg e]; exact h
      have h5 := countP_range_one (fun n => decide (f' n = l.length)) fun n m hn hm h h' => by
        simp at h h'
        exact hf'.inj n m hn hm (by omega) (by rw [h, h'])
      omega
    · split at h0
      · omega
      · rename_i hne
        simp only [if_neg hne]
        obtain ⟨a, b, c⟩ := hf'.ok n hn h0
        have ha : (f' n).toNat < l.length := by simp at a; omega
        refine ⟨ha, ?_, c⟩
        rw [List.getD_eq_getElem?_getD, List.getElem?_append_left ha, ← List.getD_eq_getElem?_getD] at b
        exact b
    · split at h0
      · omega
      · rename_i hne
        simp only [if_neg hne] at e
        split at e
        · omega
        · exact hf'.inj n m hn hm h0 e
end Go.Proofs.Ytoicohcomjnnfaa
