/- How many pairs there can be, by going through all ways: the same as the greatest row of pairs. Plain law. -/
import Derived.Test.YtoicohcomjnnfaaMaxLaw
namespace Go.Proofs.Ytoicohcomjnnfaa
open Go Go.RowKit

def mmR : List (List Int) → (Nat → Bool) → Nat
  | [], _ => 0
  | r :: rs, U => r.foldl (fun best n => if 0 ≤ n ∧ n < 16 ∧ U n.toNat = false then max best (1 + mmR rs (fun x => U x || x == n.toNat)) else best) (mmR rs U)

theorem fold_max (c : Int → Prop) [DecidablePred c] (g : Int → Nat) (r : List Int) (a : Nat) :
    a ≤ r.foldl (fun best n => if c n then max best (g n) else best) a ∧ (∀ n ∈ r, c n → g n ≤ r.foldl (fun best n => if c n then max best (g n) else best) a) ∧
    (r.foldl (fun best n => if c n then max best (g n) else best) a = a ∨ ∃ n ∈ r, c n ∧ r.foldl (fun best n => if c n then max best (g n) else best) a = g n) := by
  induction r generalizing a with
  | nil => exact ⟨Nat.le_refl _, fun n hn => by simp at hn, .inl rfl⟩
  | cons x r ih =>
    simp only [List.foldl_cons]
    obtain ⟨i1, i2, i3⟩ := ih (if c x then max a (g x) else a)
    by_cases hx : c x
    · rw [if_pos hx] at i1 i2 i3 ⊢
      refine ⟨by omega, fun n hn hc => ?_, ?_⟩
      · rcases List.mem_cons.1 hn with rfl | hn
        · omega
        · exact i2 n hn hc
      · rcases i3 with i3 | ⟨n, hn, hc, e⟩
        · rw [i3]
          rcases Nat.le_total a (g x) with h | h
          · right; exact ⟨x, List.mem_cons_self .., hx, by omega⟩
          · left; omega
        · right; exact ⟨n, List.mem_cons_of_mem _ hn, hc, e⟩
    · rw [if_neg hx] at i1 i2 i3 ⊢
      refine ⟨i1, fun n hn hc => ?_, ?_⟩
      · rcases List.mem_cons.1 hn with rfl | hn
        · exact absurd hc hx
        · exact i2 n hn hc
      · rcases i3 with i3 | ⟨n, hn, hc, e⟩
        · exact .inl i3
        · right; exact ⟨n, List.mem_cons_of_mem _ hn, hc, e⟩

theorem sz_upd (f : Nat → Int) (n : Nat) (a : Int) (hn : n < 16) (h : f n < 0) (ha : 0 ≤ a) : sz (fun m => if m = n then a else f m) = sz f + 1 := by
  have : ∀ (L : List Nat), L.countP (fun m => decide (0 ≤ (if m = n then a else f m))) = L.countP (fun m => decide (0 ≤ f m)) + L.countP (fun m => m == n) := by
    intro L
    induction L with
    | nil => rfl
    | cons b L ih =>
      simp only [List.countP_cons, ih]
      by_cases e : b = n
      · subst e
        rw [if_pos (by simpa using ha), if_neg (by simpa using h), if_pos (by simp)]
        omega
      · have : (if b = n then a else f b) = f b := if_neg e
        rw [this, if_neg (show ¬ (b == n) = true by simpa using e)]
        omega
  unfold sz
  rw [this]
  have : (List.range 16).countP (fun m => m == n) = 1 := by
    have h1 := countP_range_one (fun m => m == n) fun a b _ _ h h' => by simp at h h'; omega
    have h2 : 1 ≤ (List.range 16).countP (fun m => m == n) := List.countP_pos_iff.2 ⟨n, List.mem_range.2 hn, by simp⟩
    omega
  omega

theorem mmR_isMax (l : List (List Int)) : ∀ (k : Nat) (at_ : Nat) (U : Nat → Bool), l.length - at_ = k → at_ ≤ l.length → IsMax l (fun t => at_ ≤ t ∧ t < l.length) (fun x => U x = true) (mmR (l.drop at_) U) := by
  intro k
  induction k with
  | zero =>
    intro at_ U hk ha
    rw [List.drop_eq_nil_of_le (by omega)]
    refine ⟨⟨fun _ => -1, ⟨fun n _ h => by omega, fun n m _ _ h => by omega⟩, by show sz (fun _ => -1) = 0; decide⟩, fun f hf => ?_⟩
    have : sz f = 0 := by
      unfold sz
      rw [List.countP_eq_zero]
      intro n hn h
      have := (hf.ok n (List.mem_range.1 hn) (by simpa using h)).1
      omega
    omega
  | succ k ih =>
    intro at_ U hk ha
    have hlt : at_ < l.length := by omega
    have ed : l.drop at_ = l[at_] :: l.drop (at_ + 1) := List.drop_eq_getElem_cons hlt
    have el : l.getD at_ [] = l[at_] := by rw [getD_eq _ _ _ hlt]
    rw [ed, mmR]
    obtain ⟨m1, m2, m3⟩ := fold_max (fun n => 0 ≤ n ∧ n < 16 ∧ U n.toNat = false) (fun n => 1 + mmR (l.drop (at_ + 1)) (fun x => U x || x == n.toNat)) l[at_] (mmR (l.drop (at_ + 1)) U)
    generalize List.foldl _ _ _ = best at *
    refine ⟨?_, fun f hf => ?_⟩
    · rcases m3 with m3 | ⟨n, hn, hc, e⟩
      · obtain ⟨⟨f, hf, e⟩, _⟩ := ih (at_ + 1) U (by omega) (by omega)
        exact ⟨f, ⟨fun n hn h0 => by obtain ⟨a, b, c⟩ := hf.ok n hn h0; exact ⟨by omega, b, c⟩, hf.inj⟩, by omega⟩
      · obtain ⟨⟨f, hf, e'⟩, _⟩ := ih (at_ + 1) (fun x => U x || x == n.toNat) (by omega) (by omega)
        have hfn : f n.toNat < 0 := by
          rcases Int.lt_or_le (f n.toNat) 0 with h | h
          · exact h
          · have := (hf.ok n.toNat (by omega) h).2.2
            simp at this
        refine ⟨fun m => if m = n.toNat then at_ else f m, ⟨fun m hm h0 => ?_, fun m m' hm hm' h0 e => ?_⟩, by rw [sz_upd f n.toNat at_ (by omega) hfn (by omega)]; omega⟩
        · by_cases em : m = n.toNat
          · subst em
            simp only [if_true]
            refine ⟨by omega, ?_, by simp [hc.2.2]⟩
            rw [Int.toNat_natCast, el, Int.toNat_of_nonneg hc.1]
            exact hn
          · simp only [if_neg em] at h0 ⊢
            obtain ⟨a, b, c⟩ := hf.ok m hm h0
            refine ⟨by omega, b, fun h => c (by simp [h])⟩
        · by_cases em : m = n.toNat
          · by_cases em' : m' = n.toNat
            · omega
            · simp only [if_pos em, if_neg em'] at e
              have := (hf.ok m' hm' (by omega)).1
              omega
          · simp only [if_neg em] at e h0
            by_cases em' : m' = n.toNat
            · simp only [if_pos em'] at e
              have := (hf.ok m hm h0).1
              omega
            · simp only [if_neg em'] at e
              exact hf.inj m m' hm hm' h0 e
    · clear m3
      by_cases hx : ∃ n, n < 16 ∧ f n = at_
      · obtain ⟨n, hn, e⟩ := hx
        obtain ⟨_, h2, h3⟩ := hf.ok n hn (by omega)
        rw [e, Int.toNat_natCast, el] at h2
        have hUn : U n = false := by simpa using h3
        have := m2 n h2 ⟨by omega, by omega, by simpa using hUn⟩
        obtain ⟨_, hub⟩ := ih (at_ + 1) (fun x => U x || x == n) (by omega) (by omega)
        have hf' : IsM l (fun t => at_ + 1 ≤ t ∧ t < l.length) (fun x => (U x || x == n) = true) (fun m => if m = n then -1 else f m) := by
          refine ⟨fun m hm h0 => ?_, fun m m' hm hm' h0 e' => ?_⟩
          · by_cases em : m = n
            · simp [em] at h0
            · simp only [if_neg em] at h0 ⊢
              obtain ⟨a, b, c⟩ := hf.ok m hm h0
              refine ⟨?_, b, by simpa [em] using c⟩
              have : ¬ f m = at_ := fun e' => em (hf.inj m n hm hn h0 (by rw [e', e]))
              omega
          · by_cases em : m = n
            · simp [em] at h0
            · simp only [if_neg em] at h0 e'
              by_cases em' : m' = n
              · simp only [if_pos em'] at e'; omega
              · simp only [if_neg em'] at e'
                exact hf.inj m m' hm hm' h0 e'
        have h5 := hub _ hf'
        have h6 := sz_upd (fun m => if m = n then -1 else f m) n at_ hn (by simp) (by omega)
        have e7 : (fun m => if m = n then (at_ : Int) else (fun m => if m = n then -1 else f m) m) = f := by
          funext m
          by_cases em : m = n
          · subst em; simp [e]
          · simp [em]
        rw [e7] at h6
        rw [Int.toNat_natCast] at this
        omega
      · obtain ⟨_, hub⟩ := ih (at_ + 1) U (by omega) (by omega)
        have := hub f ⟨fun n hn h0 => by
          obtain ⟨a, b, c⟩ := hf.ok n hn h0
          have : ¬ f n = at_ := fun e => hx ⟨n, hn, e⟩
          exact ⟨by omega, b, c⟩, hf.inj⟩
        omega

theorem IsMax.congr {l l' : List (List Int)} {R R' U U' : Nat → Prop} {k : Nat} (h : IsMax l R U k) (hi : ∀ f, IsM l R U f ↔ IsM l' R' U' f) : IsMax l' R' U' k := by
  obtain ⟨⟨f, hf, e⟩, hm⟩ := h
  exact ⟨⟨f, (hi f).1 hf, e⟩, fun f hf => hm f ((hi f).2 hf)⟩

theorem mmR_max (l : List (List Int)) : IsMax l (fun t => t < l.length) (fun _ => False) (mmR l fun _ => false) := by
  have := mmR_isMax l _ 0 (fun _ => false) rfl (Nat.zero_le _)
  rw [List.drop_zero] at this
  refine this.congr fun f => ⟨fun h => ⟨fun n hn h0 => ?_, h.inj⟩, fun h => ⟨fun n hn h0 => ?_, h.inj⟩⟩
  · obtain ⟨a, b, c⟩ := h.ok n hn h0; exact ⟨a.2, b, fun h => h⟩
  · obtain ⟨a, b, c⟩ := h.ok n hn h0; exact ⟨⟨Nat.zero_le _, a⟩, b, by simp⟩

theorem MatchTo.eq {l : List (List Int)} {who : List Int} {most : Nat} (h : MatchTo l l.length who most) : most = mmR l fun _ => false := h.isMax.uniq (mmR_max l)

set_option maxHeartbeats 400000 in
theorem match_mm (v : Value) (l : List (List Int)) (w : World) (B : Nat) (h : Rows2 w B v l) (hB : B ≤ w.heap.size) :
    Calls Try.prog 19 #[v] w fun e w' => e = .returned (.int .i64 (mmR l fun _ => false : Nat)) ∧ Below w.heap.size w w' :=
  (match_any v l w B h hB).mono fun e w' ⟨who, most, he, hm, hb⟩ => ⟨by rw [he, hm.eq], hb⟩
end Go.Proofs.Ytoicohcomjnnfaa
