/- The plain law of lost shares: both ways to count are one; without few servers few shares are lost. No program in sight but for the words. -/
import Derived.Test.YtoicohcomjnnfaaLoses
import Derived.Test.YtoicohcomjnnfaaUnlike
import Derived.Test.YtoicohcomjnnfaaMm
namespace Go.Proofs.Ytoicohcomjnnfaa
open Go Go.RowKit

theorem row_fold (g : Bool) (xs : List Int) (st : List Bool × Nat) (h : st.1.length = 16) (n : Nat) (hn : n < 16) :
    (xs.foldl (lsStep g) st).1.length = 16 ∧ (xs.foldl (lsStep g) st).1.getD n false = (st.1.getD n false || (g && decide ((n : Int) ∈ xs))) := by
  induction xs generalizing st with
  | nil => exact ⟨h, by simp⟩
  | cons x xs ih =>
    simp only [List.foldl_cons]
    by_cases hc : g = true ∧ 0 ≤ x ∧ x < 16 ∧ st.1.getD x.toNat false = false
    · have e : lsStep g st x = (st.1.set x.toNat true, st.2 + 1) := by unfold lsStep; rw [if_pos hc]
      obtain ⟨i1, i2⟩ := ih (lsStep g st x) (by rw [e]; simpa using h)
      refine ⟨i1, ?_⟩
      rw [i2, e]
      simp only
      rw [getD_set _ _ _ _ _ (by omega)]
      by_cases en : x.toNat = n
      · have : (n : Int) = x := by omega
        simp [en, this, hc.1]
      · have : ¬ (n : Int) = x := by omega
        simp [en, this]
    · have e : lsStep g st x = st := by unfold lsStep; rw [if_neg hc]
      obtain ⟨i1, i2⟩ := ih (lsStep g st x) (by rw [e]; exact h)
      refine ⟨i1, ?_⟩
      rw [i2, e]
      by_cases en : (n : Int) = x
      · have hx : x.toNat = n := by omega
        rcases hs : st.1.getD n false with _ | _
        · rcases hg : g with _ | _
          · simp
          · exact absurd ⟨hg, by omega, by omega, by rw [hx]; exact hs⟩ hc
        · simp
      · simp [en]

theorem all_fold (gone : List Int) (L : List (List Int × Nat)) (st : List Bool × Nat) (h : st.1.length = 16) (n : Nat) (hn : n < 16) :
    (L.foldl (lsRow gone) st).1.length = 16 ∧ (L.foldl (lsRow gone) st).1.getD n false = L.foldl (fun b p => b || unSome gone n p) (st.1.getD n false) := by
  induction L generalizing st with
  | nil => exact ⟨h, rfl⟩
  | cons p L ih =>
    simp only [List.foldl_cons]
    obtain ⟨r1, r2⟩ := row_fold (!decide ((p.2 : Int) ∈ gone)) p.1 st h n hn
    obtain ⟨i1, i2⟩ := ih (lsRow gone st p) r1
    refine ⟨i1, ?_⟩
    rw [i2]
    congr 1

theorem count_eq (gone : List Int) (l : List (List Int)) : (lsAll gone l).2 = unCount gone l 16 := by
  have h0 : LsInv (lsAll gone l) := lsRows_inv _ _ _ lsInv0
  have hu : ∀ n, n ≤ 16 → unCount gone l n = (List.range n).countP (fun (s : Nat) => unAny gone l.zipIdx (s : Int)) := by
    intro n
    induction n with
    | zero => intro _; rfl
    | succ n ih =>
      intro hn
      rw [unCount_succ, List.range_succ, List.countP_append, ih (by omega)]
      rcases h : unAny gone l.zipIdx (n : Int) with _ | _ <;> simp [h]
  rw [h0.2, hu 16 (Nat.le_refl _)]
  have e : (lsAll gone l).1 = (List.range 16).map (fun s => unAny gone l.zipIdx ((s : Nat) : Int)) := by
    refine List.ext_getElem (by simpa using h0.1) fun i h1 h2 => ?_
    simp only [List.getElem_map, List.getElem_range]
    have hi : i < 16 := by simpa using h2
    have := (all_fold gone l.zipIdx (List.replicate 16 false, 0) (by simp) i hi).2
    rw [← getD_eq _ i false h1]
    unfold lsAll unAny
    rw [this]
    simp only [getD_rep _ _ _ hi]
  rw [e, List.count, List.countP_map]
  congr 1
  funext s
  simp


theorem sz_le (f : Nat → Int) : sz f ≤ 16 := by
  have := List.countP_le_length (p := fun n => decide (0 ≤ f n)) (l := List.range 16)
  unfold sz; simpa using this
theorem mmR_le (l : List (List Int)) : (mmR l fun _ => false) ≤ 16 := by
  obtain ⟨⟨f, _, e⟩, _⟩ := mmR_max l
  have := sz_le f
  omega

theorem unAny_true (gone : List Int) (l : List (List Int)) (s : Int) (i : Nat) (hi : i < l.length) (hg : (i : Int) ∉ gone) (hs : s ∈ l[i]) : unAny gone l.zipIdx s = true := by
  have : ∀ (L : List (List Int × Nat)) (b : Bool), (b = true ∨ (l[i], i) ∈ L) → L.foldl (fun b p => b || unSome gone s p) b = true := by
    intro L
    induction L with
    | nil => intro b hb; rcases hb with hb | hb; exact hb; simp at hb
    | cons p L ih =>
      intro b hb
      refine ih _ ?_
      rcases hb with hb | hb
      · left; simp [hb]
      · rcases List.mem_cons.1 hb with hb | hb
        · left; rw [← hb]; simp [unSome, hg, hs]
        · exact .inr hb
  refine this _ _ (.inr ?_)
  rw [List.mem_zipIdx_iff_getElem?]
  simp [List.getElem?_eq_getElem hi]

theorem countP_gone (f : Nat → Int) (h : ∀ n m, n < 16 → m < 16 → 0 ≤ f n → f n = f m → n = m) (g : List Int) : (List.range 16).countP (fun n => decide (0 ≤ f n) && decide (f n ∈ g)) ≤ g.length := by
  induction g with
  | nil => simp
  | cons x g ih =>
    have h1 := countP_le_add (fun n => decide (0 ≤ f n) && decide (f n ∈ x :: g)) (fun n => decide (0 ≤ f n) && decide (f n ∈ g)) (fun n => decide (0 ≤ f n) && decide (f n = x)) (List.range 16) fun n _ hn => by
      simp only [Bool.and_eq_true, decide_eq_true_eq] at hn ⊢
      rcases List.mem_cons.1 hn.2 with e | e
      · exact .inr ⟨hn.1, e⟩
      · exact .inl ⟨hn.1, e⟩
    have h2 := countP_range_one (fun n => decide (0 ≤ f n) && decide (f n = x)) fun n m hn hm a b => by
      simp only [Bool.and_eq_true, decide_eq_true_eq] at a b
      exact h n m hn hm a.1 (by rw [a.2, b.2])
    rw [List.length_cons]
    omega

/-- P19.3. -/
theorem losB_false (l : List (List Int)) (g : List Int) (k : Int) (m : Nat) (hm : (mmR l fun _ => false) = m) (hk : k + g.length ≤ m) : losB g l k = false := by
  unfold losB
  rw [count_eq]
  obtain ⟨⟨f, hf, e⟩, _⟩ := mmR_max l
  have hu : ∀ n, n ≤ 16 → unCount g l n = (List.range n).countP (fun (s : Nat) => unAny g l.zipIdx (s : Int)) := by
    intro n
    induction n with
    | zero => intro _; rfl
    | succ n ih =>
      intro hn
      rw [unCount_succ, List.range_succ, List.countP_append, ih (by omega)]
      rcases h : unAny g l.zipIdx (n : Int) with _ | _ <;> simp [h]
  have h1 := countP_le_add (fun n => decide (0 ≤ f n)) (fun (s : Nat) => unAny g l.zipIdx (s : Int)) (fun n => decide (0 ≤ f n) && decide (f n ∈ g)) (List.range 16) fun n hn h => by
    have h0 : 0 ≤ f n := by simpa using h
    obtain ⟨a, b, _⟩ := hf.ok n (List.mem_range.1 hn) h0
    by_cases hg : f n ∈ g
    · right; simp [h0, hg]
    · left
      rw [getD_eq _ _ _ a] at b
      exact unAny_true g l n (f n).toNat a (by rw [Int.toNat_of_nonneg h0]; exact hg) b
  have h2 := countP_gone f hf.inj g
  have h3 : sz f = (List.range 16).countP (fun n => decide (0 ≤ f n)) := rfl
  rw [hu 16 (Nat.le_refl _)]
  simp
  omega
end Go.Proofs.Ytoicohcomjnnfaa
