/- The plain law of the search for pairs: what place.Match finds is as much as there can be. No program in sight but for the relation. -/
import Derived.Test.YtoicohcomjnnfaaMatch
namespace Go.Proofs.Ytoicohcomjnnfaa
open Go Go.RowKit

/-- How many shares a row of pairs (share → server, below 0: nobody) serves. -/
def sz (f : Nat → Int) : Nat := (List.range 16).countP (fun n => decide (0 ≤ f n))

/-- A row of pairs: servers in R, shares not in U, each pair one that there is, no server twice. -/
structure IsM (l : List (List Int)) (R : Nat → Prop) (U : Nat → Prop) (f : Nat → Int) : Prop where
  ok : ∀ n, n < 16 → 0 ≤ f n → R (f n).toNat ∧ (n : Int) ∈ l.getD (f n).toNat [] ∧ ¬ U n
  inj : ∀ n m, n < 16 → m < 16 → 0 ≤ f n → f n = f m → n = m

def IsMax (l : List (List Int)) (R U : Nat → Prop) (k : Nat) : Prop := (∃ f, IsM l R U f ∧ sz f = k) ∧ ∀ f, IsM l R U f → sz f ≤ k

theorem IsMax.uniq {l : List (List Int)} {R U : Nat → Prop} {k k' : Nat} (h : IsMax l R U k) (h' : IsMax l R U k') : k = k' := by
  obtain ⟨⟨f, hf, e⟩, hm⟩ := h
  obtain ⟨⟨f', hf', e'⟩, hm'⟩ := h'
  have := hm _ hf'
  have := hm' _ hf
  omega

theorem countP_set {α : Type} (p : α → Bool) (l : List α) (i : Nat) (a : α) (h : i < l.length) : (l.set i a).countP p + (if p l[i] then 1 else 0) = l.countP p + (if p a then 1 else 0) := by
  induction l generalizing i with
  | nil => simp at h
  | cons b l ih =>
    cases i with
    | zero => simp only [List.set_cons_zero, List.countP_cons, List.getElem_cons_zero]; omega
    | succ i =>
      have := ih i (by simpa using h)
      simp only [List.set_cons_succ, List.countP_cons, List.getElem_cons_succ]
      omega

theorem getD_eq {α : Type} (l : List α) (i : Nat) (d : α) (h : i < l.length) : l.getD i d = l[i] := by
  rw [List.getD_eq_getElem?_getD, List.getElem?_eq_getElem h]; rfl
theorem getD_set {α : Type} (l : List α) (i j : Nat) (a d : α) (h : i < l.length) : (l.set i a).getD j d = if i = j then a else l.getD j d := by
  rw [List.getD_eq_getElem?_getD, List.getElem?_set, List.getD_eq_getElem?_getD]
  split
  · rename_i e; subst e; simp [h]
  · rfl

theorem getD_rep {α : Type} (n : Nat) (a d : α) (h : n < 16) : (List.replicate 16 a).getD n d = a := by
  rw [getD_eq _ _ _ (by rw [List.length_replicate]; exact h), List.getElem_replicate]

theorem TryR.seen {l : List (List Int)} {s : Int} {ns : List Int} {st st' : TrySt} {b : Bool} (h : TryR l s ns st b st') :
    TryOk l st → 0 ≤ s → s < l.length → ∀ n, n < 16 → st.2.getD n false = true → st'.2.getD n false = true := by
  induction h with
  | nil => exact fun _ _ _ _ _ h => h
  | skip _ _ ih => exact ih
  | @free s n ns st h0 h1 h2 h3 =>
    intro ho _ _ m hm h
    rw [getD_set _ _ _ _ _ (by have := ho.2.1; omega)]
    split
    · rfl
    · exact h
  | @take s n ns st st' h0 h1 h2 h3 _ ih =>
    intro ho hs hl m hm h
    have hw := ho.who n.toNat (by omega)
    refine ih (ho.mark _) h3 hw.2 m hm ?_
    rw [getD_set _ _ _ _ _ (by have := ho.2.1; omega)]
    split
    · rfl
    · exact h
  | @fail s n ns st st1 st' b h0 h1 h2 h3 hr _ ih1 ih2 =>
    intro ho hs hl m hm h
    have hw := ho.who n.toNat (by omega)
    refine ih2 (hr.ok (ho.mark _) h3 hw.2).1 hs hl m hm (ih1 (ho.mark _) h3 hw.2 m hm ?_)
    rw [getD_set _ _ _ _ _ (by have := ho.2.1; omega)]
    split
    · rfl
    · exact h

theorem TryR.no {l : List (List Int)} {s : Int} {ns : List Int} {st st' : TrySt} {b : Bool} (h : TryR l s ns st b st') : b = false → st'.1 = st.1 := by
  induction h with
  | nil => exact fun _ => rfl
  | skip _ _ ih => exact ih
  | free => intro h; cases h
  | take => intro h; cases h
  | fail h0 h1 h2 h3 hr _ ih1 ih2 => exact fun hb => (ih2 hb).trans (ih1 rfl)

/-- What a call that serves nobody has seen. -/
theorem TryR.closed {l : List (List Int)} {s : Int} {ns : List Int} {st st' : TrySt} {b : Bool} (h : TryR l s ns st b st') :
    b = false → TryOk l st → 0 ≤ s → s < l.length →
    (∀ n ∈ ns, 0 ≤ n → n < 16 → st'.2.getD n.toNat false = true) ∧
    (∀ n, n < 16 → st'.2.getD n false = true → st.2.getD n false = false → 0 ≤ st.1.getD n 0 ∧ ∀ m ∈ l.getD (st.1.getD n 0).toNat [], 0 ≤ m → m < 16 → st'.2.getD m.toNat false = true) := by
  induction h with
  | nil =>
    refine fun _ _ _ _ => ⟨fun n hn => by simp at hn, fun n hn h h' => ?_⟩
    rw [h] at h'; cases h'
  | @skip s n ns st st' b hx hr ih =>
    intro hb ho hs hl
    obtain ⟨i1, i2⟩ := ih hb ho hs hl
    refine ⟨fun m hm h0 h1 => ?_, i2⟩
    rcases List.mem_cons.1 hm with rfl | hm
    · rcases hx with hx | hx | hx
      · omega
      · omega
      · exact hr.seen ho hs hl _ (by omega) hx
    · exact i1 m hm h0 h1
  | free => intro h; cases h
  | take => intro h; cases h
  | @fail s n ns st st1 st' b h0 h1 h2 h3 hr hr2 ih1 ih2 =>
    intro hb ho hs hl
    have hw := ho.who n.toNat (by omega)
    have ho1 := (hr.ok (ho.mark n.toNat) h3 hw.2).1
    have hlen := ho.2.1
    obtain ⟨i1, i2⟩ := ih1 rfl (ho.mark _) h3 hw.2
    obtain ⟨j1, j2⟩ := ih2 hb ho1 hs hl
    have e1 := hr.no rfl
    simp only at e1 i2
    rw [e1] at j2
    have hn1 : st1.2.getD n.toNat false = true := hr.seen (ho.mark _) h3 hw.2 _ (by omega) (by simp only; rw [getD_set _ _ _ _ _ (by omega)]; simp)
    refine ⟨fun m hm h0 h1 => ?_, fun m hm h h' => ?_⟩
    · rcases List.mem_cons.1 hm with rfl | hm
      · exact hr2.seen ho1 hs hl _ (by omega) hn1
      · exact j1 m hm h0 h1
    · rcases hm1 : st1.2.getD m false with _ | _
      · exact j2 m hm h hm1
      · by_cases e : n.toNat = m
        · subst e
          exact ⟨h3, fun x hx a b => hr2.seen ho1 hs hl _ (by omega) (i1 x hx a b)⟩
        · obtain ⟨k1, k2⟩ := i2 m hm hm1 (by rw [getD_set _ _ _ _ _ (by omega), if_neg e]; exact h')
          exact ⟨k1, fun x hx a b => hr2.seen ho1 hs hl _ (by omega) (k2 x hx a b)⟩

/-- What a call that serves the server leaves. -/
theorem TryR.yes {l : List (List Int)} {s : Int} {ns : List Int} {st st' : TrySt} {b : Bool} (h : TryR l s ns st b st') :
    b = true → TryOk l st → 0 ≤ s → s < l.length → (∀ n ∈ ns, n ∈ l.getD s.toNat []) → (∀ n, n < 16 → 0 ≤ st.1.getD n 0 → (n : Int) ∈ l.getD (st.1.getD n 0).toNat []) →
    (∀ t, 0 ≤ t → st'.1.countP (fun x => x == t) = st.1.countP (fun x => x == t) + (if s = t then 1 else 0)) ∧ st'.1.countP (fun x => decide (0 ≤ x)) = st.1.countP (fun x => decide (0 ≤ x)) + 1 ∧
    (∀ n, n < 16 → st.2.getD n false = true → st'.1.getD n 0 = st.1.getD n 0) ∧ (∀ n, n < 16 → 0 ≤ st'.1.getD n 0 → (n : Int) ∈ l.getD (st'.1.getD n 0).toNat []) := by
  induction h with
  | nil => intro h; cases h
  | skip _ _ ih => exact fun hb ho hs hl hn ha => ih hb ho hs hl (fun n h => hn n (List.mem_cons_of_mem _ h)) ha
  | @free s n ns st h0 h1 h2 h3 =>
    intro _ ho hs hl hn ha
    have hl16 := ho.1
    rw [getD_eq _ _ _ (by omega)] at h3
    refine ⟨fun t ht => ?_, ?_, fun m hm h => ?_, fun m hm h => ?_⟩
    · have := countP_set (fun x => x == t) st.1 n.toNat s (by omega)
      have e : (st.1[n.toNat] == t) = false := by simp; omega
      simp only [e] at this
      simp only [beq_iff_eq] at this
      simpa using this
    · have := countP_set (fun x => decide (0 ≤ x)) st.1 n.toNat s (by omega)
      rw [if_neg (by simp; omega), if_pos (by simpa using hs)] at this
      simpa using this
    · rw [getD_set _ _ _ _ _ (by omega)]
      split
      · rename_i e; subst e; rw [h2] at h; cases h
      · rfl
    · simp only at h ⊢
      rw [getD_set _ _ _ _ _ (by omega)] at h ⊢
      split
      · rename_i e
        have := hn n (List.mem_cons_self ..)
        rw [show (m : Int) = n from by omega]
        exact this
      · rename_i e
        rw [if_neg e] at h
        exact ha m hm h
  | @take s n ns st st' h0 h1 h2 h3 hr ih =>
    intro _ ho hs hl hn ha
    have hw := ho.who n.toNat (by omega)
    have hl16 := ho.1
    obtain ⟨i1, i2, i3, i4⟩ := ih rfl (ho.mark _) h3 hw.2 (fun n h => h) ha
    have hok := (hr.ok (ho.mark _) h3 hw.2).1
    have hl16' := hok.1
    have hkeep := i3 n.toNat (by omega) (by simp only; rw [getD_set _ _ _ _ _ (by have := ho.2.1; omega)]; simp)
    simp only at i1 i2 i3 hkeep
    have hk2 : st'.1[n.toNat]'(by omega) = st.1.getD n.toNat 0 := by rw [← hkeep, getD_eq _ _ _ (by omega)]
    refine ⟨fun t ht => ?_, ?_, fun m hm h => ?_, fun m hm h => ?_⟩
    · have := countP_set (fun x => x == t) st'.1 n.toNat s (by omega)
      rw [i1 t ht, hk2] at this
      simp only [beq_iff_eq] at this ⊢
      omega
    · have := countP_set (fun x => decide (0 ≤ x)) st'.1 n.toNat s (by omega)
      rw [i2, hk2, if_pos (by simpa using h3), if_pos (by simpa using hs)] at this
      simp only at this ⊢
      omega
    · rw [getD_set _ _ _ _ _ (by omega)]
      split
      · rename_i e; subst e; rw [h2] at h; cases h
      · rename_i e
        refine i3 m hm ?_
        rw [getD_set _ _ _ _ _ (by have := ho.2.1; omega), if_neg e]
        exact h
    · simp only at h ⊢
      rw [getD_set _ _ _ _ _ (by omega)] at h ⊢
      split
      · rename_i e
        have := hn n (List.mem_cons_self ..)
        rw [show (m : Int) = n from by omega]
        exact this
      · rename_i e
        rw [if_neg e] at h
        exact i4 m hm h
  | @fail s n ns st st1 st' b h0 h1 h2 h3 hr _ ih1 ih2 =>
    intro hb ho hs hl hn ha
    have hw := ho.who n.toNat (by omega)
    have e1 := hr.no rfl
    simp only at e1
    obtain ⟨i1, i2, i3, i4⟩ := ih2 hb (hr.ok (ho.mark _) h3 hw.2).1 hs hl (fun n h => hn n (List.mem_cons_of_mem _ h)) (by rw [e1]; exact ha)
    rw [e1] at i1 i2 i3
    refine ⟨i1, i2, fun m hm h => i3 m hm (hr.seen (ho.mark _) h3 hw.2 m hm ?_), i4⟩
    simp only
    rw [getD_set _ _ _ _ _ (by have := ho.2.1; omega)]
    split
    · rfl
    · exact h

theorem countP_getElem2 {α : Type} (p : α → Bool) (l : List α) (i j : Nat) (hi : i < l.length) (hj : j < l.length) (hne : i ≠ j) (h : p l[i] = true) (h' : p l[j] = true) : 2 ≤ l.countP p := by
  induction l generalizing i j with
  | nil => simp at hi
  | cons b l ih =>
    have one : ∀ (k : Nat) (hk : k < l.length), p l[k] = true → 1 ≤ l.countP p := fun k hk h => List.countP_pos_iff.2 ⟨_, List.getElem_mem hk, h⟩
    rw [List.countP_cons]
    cases i with
    | zero =>
      cases j with
      | zero => exact absurd rfl hne
      | succ j =>
        simp only [List.getElem_cons_zero, List.getElem_cons_succ] at h h'
        have := one j (by simpa using hj) h'
        rw [if_pos h]; omega
    | succ i =>
      cases j with
      | zero =>
        simp only [List.getElem_cons_zero, List.getElem_cons_succ] at h h'
        have := one i (by simpa using hi) h
        rw [if_pos h']; omega
      | succ j =>
        simp only [List.getElem_cons_succ] at h h'
        have := ih i j (by simpa using hi) (by simpa using hj) (by omega) h h'
        omega

theorem sz_list (who : List Int) (h : who.length = 16) : sz (fun n => who.getD n 0) = who.countP (fun x => decide (0 ≤ x)) := by
  have e : who = (List.range 16).map (fun n => who.getD n 0) := by
    refine List.ext_getElem (by simp [h]) fun i h1 h2 => ?_
    simp only [List.getElem_map, List.getElem_range]
    rw [getD_eq _ _ _ h1]
  conv => rhs; rw [e, List.countP_map]
  rfl

theorem countP_range_one (n0 : Nat → Bool) (h : ∀ n m, n < 16 → m < 16 → n0 n = true → n0 m = true → n = m) : (List.range 16).countP n0 ≤ 1 := by
  rcases Nat.lt_or_ge ((List.range 16).countP n0) 2 with h' | h'
  · omega
  · exfalso
    have : ∀ (N : Nat), N ≤ 16 → 2 ≤ (List.range N).countP n0 → False := by
      intro N
      induction N with
      | zero => intro _ h; simp at h
      | succ N ih =>
        intro hN h2
        rw [List.range_succ, List.countP_append] at h2
        rcases Nat.lt_or_ge ((List.range N).countP n0) 2 with h3 | h3
        · have h4 : 1 ≤ (List.range N).countP n0 := by
            have : List.countP n0 [N] ≤ 1 := by have := List.countP_le_length (p := n0) (l := [N]); simpa using this
            omega
          have h5 : n0 N = true := by
            rcases h6 : n0 N with _ | _
            · simp [h6] at h2; omega
            · rfl
          obtain ⟨x, hx, h7⟩ := List.countP_pos_iff.1 h4
          have hx := List.mem_range.1 hx
          have := h x N (by omega) (by omega) h7 h5
          omega
        · exact ih (by omega) h3
    exact this 16 (Nat.le_refl _) h'

theorem countP_le_add (p q r : Nat → Bool) (L : List Nat) (h : ∀ n ∈ L, p n = true → q n = true ∨ r n = true) : L.countP p ≤ L.countP q + L.countP r := by
  induction L with
  | nil => simp
  | cons a L ih =>
    have := ih fun n hn => h n (List.mem_cons_of_mem _ hn)
    have := h a (List.mem_cons_self ..)
    simp only [List.countP_cons]
    rcases hp : p a with _ | _
    · simp; omega
    · rcases this hp with h | h <;> simp [h] <;> omega

def WhoM (l : List (List Int)) (k : Nat) (who : List Int) (most : Nat) : Prop :=
  who.length = 16 ∧ (∀ t, 0 ≤ t → who.countP (fun x => x == t) ≤ 1) ∧ (∀ t, k ≤ t → who.countP (fun x => x == (t : Int)) = 0) ∧ (∀ n, n < 16 → 0 ≤ who.getD n 0 → (n : Int) ∈ l.getD (who.getD n 0).toNat []) ∧
  who.countP (fun x => decide (0 ≤ x)) = most

theorem WhoM.isM {l : List (List Int)} {k : Nat} {who : List Int} {most : Nat} (h : WhoM l k who most) : IsM l (fun t => t < k) (fun _ => False) (fun n => who.getD n 0) := by
  obtain ⟨h1, h2, h3, h4, h5⟩ := h
  refine ⟨fun n hn h0 => ⟨?_, h4 n hn h0, fun h => h⟩, fun n m hn hm h0 e => ?_⟩
  · rcases Nat.lt_or_ge (who.getD n 0).toNat k with h | h
    · exact h
    · have := h3 _ h
      rw [List.countP_eq_zero] at this
      have h6 := this (who.getD n 0) (by rw [getD_eq _ _ _ (by omega)]; exact List.getElem_mem _)
      exact absurd (by rw [beq_iff_eq]; omega) h6
  · rcases Nat.decEq n m with hne | hne
    · have := countP_getElem2 (fun x => x == who.getD n 0) who n m (by omega) (by omega) hne (by rw [getD_eq _ _ _ (by omega)]; simp) (by rw [e, getD_eq _ _ _ (by omega)]; simp)
      have := h2 _ h0
      omega
    · exact hne

theorem match_isMax (l : List (List Int)) : ∀ (k : Nat) (who : List Int) (most : Nat), MatchTo l k who most → k ≤ l.length → WhoM l k who most ∧ ∀ f, IsM l (fun t => t < k) (fun _ => False) f → sz f ≤ most
  | 0, who, most, h, _ => by
    obtain ⟨rfl, rfl⟩ := h
    refine ⟨⟨by simp, fun t ht => ?_, fun t _ => ?_, fun n hn h => ?_, by decide⟩, fun f hf => ?_⟩
    · rw [List.countP_replicate]; split
      · rename_i h; rw [beq_iff_eq] at h; omega
      · omega
    · rw [List.countP_replicate]; split
      · rename_i h; rw [beq_iff_eq] at h; omega
      · rfl
    · rw [getD_rep _ _ _ hn] at h; omega
    · have : sz f = 0 := by
        unfold sz
        rw [List.countP_eq_zero]
        intro n hn h
        have := (hf.ok n (List.mem_range.1 hn) (by simpa using h)).1
        omega
      omega
  | k + 1, who', most', h, hk => by
    obtain ⟨who, most, b, seen', h1, h2, rfl⟩ := h
    have hok := (MatchTo.ok h1 (by omega)).1
    obtain ⟨⟨w1, w2, w3, w4, w5⟩, hmax⟩ := match_isMax l k who most h1 (by omega)
    have hM := WhoM.isM ⟨w1, w2, w3, w4, w5⟩
    cases b with
    | true =>
      obtain ⟨y1, y2, y3, y4⟩ := h2.yes rfl hok (by omega) (by omega) (fun n h => by simpa using h) w4
      have hok' := (h2.ok hok (by omega) (by omega)).1
      simp only at y1 y2 y4
      refine ⟨⟨hok'.1, fun t ht => ?_, fun t ht => ?_, y4, by rw [y2, w5]; simp⟩, fun f hf => ?_⟩
      · rw [y1 t ht]
        split
        · rename_i e; rw [← e, w3 k (Nat.le_refl _)]; omega
        · exact w2 t ht
      · rw [y1 _ (by omega), w3 t (by omega), if_neg (by omega)]
      · have hf' : IsM l (fun t => t < k) (fun _ => False) (fun n => if f n = k then -1 else f n) := by
          refine ⟨fun n hn h0 => ?_, fun n m hn hm h0 e => ?_⟩
          · split at h0
            · omega
            · rename_i hne
              rw [if_neg hne]
              obtain ⟨a, b, c⟩ := hf.ok n hn h0
              exact ⟨by omega, b, c⟩
          · split at h0
            · omega
            · rename_i hne
              rw [if_neg hne] at e
              split at e
              · omega
              · exact hf.inj n m hn hm h0 e
        have h3 := hmax _ hf'
        have h4 : sz f ≤ sz (fun n => if f n = k then -1 else f n) + (List.range 16).countP (fun n => decide (f n = k)) := by
          refine countP_le_add _ _ _ _ fun n hn h => ?_
          by_cases e : f n = k
          · right; simpa using e
          · left; simp only [if_neg e]; exact h
        have h5 := countP_range_one (fun n => decide (f n = k)) fun n m hn hm h h' => by
          simp at h h'
          exact hf.inj n m hn hm (by omega) (by rw [h, h'])
        simp only [if_true]
        omega
    | false =>
      have e1 := h2.no rfl
      simp only at e1
      subst e1
      refine ⟨⟨w1, w2, fun t ht => w3 t (by omega), w4, by simpa using w5⟩, fun f hf => ?_⟩
      obtain ⟨c1, c2⟩ := h2.closed rfl hok (by omega) (by omega)
      simp only [Int.toNat_natCast] at c1 c2
      have hX : ∀ n, n < 16 → 0 ≤ f n → (f n = k ∨ ∃ n0, n0 < 16 ∧ seen'.getD n0 false = true ∧ who'.getD n0 0 = f n) → seen'.getD n false = true := by
        intro n hn h0 hx
        obtain ⟨_, hadj, _⟩ := hf.ok n hn h0
        rcases hx with hx | ⟨n0, hn0, hs0, hw0⟩
        · rw [hx] at hadj
          have := c1 n (by simpa using hadj) (by omega) (by omega)
          simpa using this
        · have := (c2 n0 hn0 hs0 (getD_rep _ _ _ hn0)).2 n (by rw [hw0]; exact hadj) (by omega) (by omega)
          simpa using this
      have hS : ∀ n, n < 16 → seen'.getD n false = true → 0 ≤ who'.getD n 0 := fun n hn h => (c2 n hn h (getD_rep _ _ _ hn)).1
      classical
      have hf' : IsM l (fun t => t < k) (fun _ => False) (fun n => if 0 ≤ f n ∧ (f n = k ∨ ∃ n0, n0 < 16 ∧ seen'.getD n0 false = true ∧ who'.getD n0 0 = f n) then who'.getD n 0 else f n) := by
        refine ⟨fun n hn h0 => ?_, fun n m hn hm h0 e => ?_⟩
        · split at h0
          · rename_i hx
            rw [if_pos hx]
            exact hM.ok n hn h0
          · rename_i hx
            rw [if_neg hx]
            obtain ⟨a, b, c⟩ := hf.ok n hn h0
            refine ⟨?_, b, c⟩
            have : ¬ f n = k := fun e => hx ⟨h0, .inl e⟩
            omega
        · split at h0
          · rename_i hx
            rw [if_pos hx] at e
            split at e
            · exact hM.inj n m hn hm h0 e
            · rename_i hy
              exact absurd ⟨by omega, .inr ⟨n, hn, hX n hn hx.1 hx.2, e⟩⟩ hy
          · rename_i hx
            rw [if_neg hx] at e
            split at e
            · rename_i hy
              exact absurd ⟨h0, .inr ⟨m, hm, hX m hm hy.1 hy.2, e.symm⟩⟩ hx
            · exact hf.inj n m hn hm h0 e
      have h3 := hmax _ hf'
      have h4 : sz f ≤ sz (fun n => if 0 ≤ f n ∧ (f n = k ∨ ∃ n0, n0 < 16 ∧ seen'.getD n0 false = true ∧ who'.getD n0 0 = f n) then who'.getD n 0 else f n) := by
        refine List.countP_mono_left fun n hn h => ?_
        have hn := List.mem_range.1 hn
        by_cases hx : 0 ≤ f n ∧ (f n = k ∨ ∃ n0, n0 < 16 ∧ seen'.getD n0 false = true ∧ who'.getD n0 0 = f n)
        · simp only [if_pos hx]
          simpa using hS n hn (hX n hn hx.1 hx.2)
        · simp only [if_neg hx]; exact h
      simp only [Bool.false_eq_true, if_false]
      omega

/-- place.Match: as many pairs as there can be. -/
theorem MatchTo.isMax {l : List (List Int)} {who : List Int} {most : Nat} (h : MatchTo l l.length who most) : IsMax l (fun t => t < l.length) (fun _ => False) most := by
  obtain ⟨h1, h2⟩ := match_isMax l _ _ _ h (Nat.le_refl _)
  exact ⟨⟨_, h1.isM, by rw [sz_list _ h1.1]; exact h1.2.2.2.2⟩, h2⟩
end Go.Proofs.Ytoicohcomjnnfaa
