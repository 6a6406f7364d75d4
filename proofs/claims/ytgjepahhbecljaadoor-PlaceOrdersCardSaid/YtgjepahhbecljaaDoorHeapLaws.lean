/- A heap in a row, as a law of its own: what an element's way up or down keeps. No program in sight.
Rows that rise and hold the same are the same; an order of numbered rows of bytes. No program in sight.
The order of servers, as the document makes it: each behind those that are not greater. No program in sight.
A heap's row: two changed over; the first one taken: what is taken rises. No program in sight.
The way up and the way down in a heap's row, as laws on rows; the first one taken. No program in sight. -/
import Derived.Test.YtgjepahhbecljaaDoorBase
namespace Go.Proofs.YtgjepahhbecljaaDoor.Heap
variable {α : Type} {lt : α → α → Prop}

/-- An order: no two are each before the other; what is not behind is carried on. -/
structure Ordr (lt : α → α → Prop) : Prop where
  asymm : ∀ a b, lt a b → ¬ lt b a
  trans : ∀ a b c, ¬ lt b a → ¬ lt c b → ¬ lt c a
def par (k : Nat) : Nat := (k - 1) / 2
def swp (f : Nat → α) (i j : Nat) : Nat → α := fun k => if k = i then f j else if k = j then f i else f k
/-- Nobody is before the one above it. -/
def Is (lt : α → α → Prop) (f : Nat → α) (n : Nat) : Prop := ∀ k, 0 < k → k < n → ¬ lt (f k) (f (par k))
/-- A heap but for number j, which may be too far down. -/
def Up (lt : α → α → Prop) (f : Nat → α) (n j : Nat) : Prop :=
  (∀ k, 0 < k → k < n → k ≠ j → ¬ lt (f k) (f (par k))) ∧ ∀ k, 0 < k → k < n → par k = j → 0 < j → ¬ lt (f k) (f (par j))
/-- A heap but for number i, which may be too far up. -/
def Dn (lt : α → α → Prop) (f : Nat → α) (n i : Nat) : Prop :=
  (∀ k, 0 < k → k < n → par k ≠ i → ¬ lt (f k) (f (par k))) ∧ ∀ k, 0 < k → k < n → par k = i → 0 < i → ¬ lt (f k) (f (par i))
theorem par_lt {k : Nat} (h : 0 < k) : par k < k := by unfold par; omega
theorem swp_l (f : Nat → α) (i j : Nat) : swp f i j i = f j := if_pos rfl
theorem swp_r (f : Nat → α) (i j : Nat) : swp f i j j = f i := by
  unfold swp
  by_cases h : j = i
  · rw [if_pos h, h]
  · rw [if_neg h, if_pos rfl]
theorem swp_o (f : Nat → α) {i j k : Nat} (h1 : k ≠ i) (h2 : k ≠ j) : swp f i j k = f k := by
  unfold swp
  rw [if_neg h1, if_neg h2]
theorem up_new {f : Nat → α} {n : Nat} (h : Is lt f n) : Up lt f (n + 1) n :=
  ⟨fun k h0 hk hn => h k h0 (by omega), fun k h0 hk hp h2 => by have := par_lt h0; omega⟩
theorem up_step (O : Ordr lt) {f : Nat → α} {n j : Nat} (h : Up lt f n j) (h0 : 0 < j) (hj : j < n) (hl : lt (f j) (f (par j))) : Up lt (swp f (par j) j) n (par j) := by
  have hp := par_lt h0
  refine ⟨fun k k0 kn ki => ?_, fun k k0 kn kp i0 => ?_⟩
  · have hk := par_lt k0
    by_cases e : k = j
    · subst e
      rw [swp_r, swp_l]
      exact O.asymm _ _ hl
    · rw [swp_o f ki e]
      by_cases e1 : par k = par j
      · rw [e1, swp_l]
        have h1 := h.1 k k0 kn e
        rw [e1] at h1
        exact O.trans _ _ _ (O.asymm _ _ hl) h1
      · by_cases e2 : par k = j
        · rw [e2, swp_r]
          exact h.2 k k0 kn e2 h0
        · rw [swp_o f e1 e2]
          exact h.1 k k0 kn e
  · have hi := par_lt i0
    have hk := par_lt k0
    have hpi := h.1 (par j) i0 (by omega) (by omega)
    rw [swp_o f (by omega : par (par j) ≠ par j) (by omega : par (par j) ≠ j)]
    by_cases e : k = j
    · rw [e, swp_r]
      exact hpi
    · rw [swp_o f (by omega) e]
      have h1 := h.1 k k0 kn e
      rw [kp] at h1
      exact O.trans _ _ _ hpi h1
theorem up_done {f : Nat → α} {n j : Nat} (h : Up lt f n j) (hd : j = 0 ∨ ¬ lt (f j) (f (par j))) : Is lt f n := fun k k0 kn => by
  by_cases e : k = j
  · subst e
    rcases hd with hd | hd
    · omega
    · exact hd
  · exact h.1 k k0 kn e
theorem dn_step (O : Ordr lt) {f : Nat → α} {n i j : Nat} (h : Dn lt f n i) (j0 : 0 < j) (hj : j < n) (hp : par j = i) (hl : lt (f j) (f i)) (ho : ∀ k, 0 < k → k < n → par k = i → ¬ lt (f k) (f j)) : Dn lt (swp f i j) n j := by
  have hij : i < j := by have := par_lt j0; omega
  refine ⟨fun k k0 kn kp => ?_, fun k k0 kn kp _ => ?_⟩
  · have hk := par_lt k0
    by_cases e : k = j
    · subst e
      rw [hp, swp_r, swp_l]
      exact O.asymm _ _ hl
    · by_cases e1 : par k = i
      · rw [e1, swp_l, swp_o f (by omega) e]
        exact ho k k0 kn e1
      · rw [swp_o f e1 kp]
        by_cases e2 : k = i
        · subst e2
          rw [swp_l]
          exact h.2 j j0 hj hp k0
        · rw [swp_o f e2 e]
          exact h.1 k k0 kn e1
  · have hk := par_lt k0
    rw [hp, swp_l, swp_o f (by omega) (by omega)]
    have := h.1 k k0 kn (by omega)
    rw [kp] at this
    exact this
theorem dn_done {f : Nat → α} {n i : Nat} (h : Dn lt f n i) (hd : ∀ k, 0 < k → k < n → par k = i → ¬ lt (f k) (f i)) : Is lt f n := fun k k0 kn => by
  by_cases e : par k = i
  · rw [e]
    exact hd k k0 kn e
  · exact h.1 k k0 kn e
theorem dn_new {f : Nat → α} {n : Nat} (h : Is lt f (n + 1)) : Dn lt (swp f 0 n) n 0 := by
  refine ⟨fun k k0 kn kp => ?_, fun k k0 kn kp i0 => absurd i0 (by omega)⟩
  have hk := par_lt k0
  rw [swp_o f (by omega) (by omega), swp_o f kp (by omega)]
  exact h k k0 (by omega)
/-- Nobody is before the first one. -/
theorem top (O : Ordr lt) {f : Nat → α} {n : Nat} (h : Is lt f n) : ∀ m k, k ≤ m → k < n → ¬ lt (f k) (f 0)
  | 0, k, hm, hk => by
    obtain rfl : k = 0 := by omega
    exact fun hl => O.asymm _ _ hl hl
  | m + 1, k, hm, hk => by
    by_cases e : k = 0
    · subst e
      exact fun hl => O.asymm _ _ hl hl
    · have hp := par_lt (k := k) (by omega)
      exact O.trans _ _ _ (top O h m (par k) (by omega) (by omega)) (h k (by omega) hk)
end Go.Proofs.YtgjepahhbecljaaDoor.Heap

namespace Go.Proofs.YtgjepahhbecljaaDoor.Heap
variable {α : Type}
theorem sorted_eq {r : α → α → Prop} (hr : ∀ a b, r a b → ¬ r b a) : ∀ l1 l2 : List α, l1.Pairwise r → l2.Pairwise r → l1.Perm l2 → l1 = l2
  | [], l2, _, _, hp => hp.nil_eq
  | a :: t1, l2, h1, h2, hp => by
    match l2, h2, hp with
    | [], _, hp => exact absurd hp.symm.nil_eq (by simp)
    | b :: t2, h2, hp =>
      have hab : a = b := by
        rcases List.mem_cons.1 (hp.subset (List.mem_cons_self)) with h | h
        · exact h
        · rcases List.mem_cons.1 (hp.symm.subset (List.mem_cons_self)) with h' | h'
          · exact h'.symm
          · exact absurd ((List.pairwise_cons.1 h1).1 b h') (hr _ _ ((List.pairwise_cons.1 h2).1 a h))
      subst hab
      rw [sorted_eq hr t1 t2 (List.pairwise_cons.1 h1).2 (List.pairwise_cons.1 h2).2 hp.cons_inv]
/-- Rows of numbers, compared from the first on. -/
def cmpL : List Int → List Int → Int
  | [], [] => 0
  | [], _ :: _ => -1
  | _ :: _, [] => 1
  | x :: xs, y :: ys => if x < y then -1 else if y < x then 1 else cmpL xs ys
theorem cmpL_range : ∀ a b, cmpL a b = -1 ∨ cmpL a b = 0 ∨ cmpL a b = 1
  | [], [] => .inr (.inl rfl)
  | [], _ :: _ => .inl rfl
  | _ :: _, [] => .inr (.inr rfl)
  | x :: xs, y :: ys => by
    unfold cmpL
    by_cases h : x < y
    · rw [if_pos h]; exact .inl rfl
    · rw [if_neg h]
      by_cases h2 : y < x
      · rw [if_pos h2]; exact .inr (.inr rfl)
      · rw [if_neg h2]; exact cmpL_range xs ys
theorem cmpL_swap : ∀ a b, cmpL b a = -cmpL a b
  | [], [] => rfl
  | [], _ :: _ => rfl
  | _ :: _, [] => rfl
  | x :: xs, y :: ys => by
    unfold cmpL
    by_cases h : x < y
    · rw [if_neg (by omega), if_pos h, if_pos h]; rfl
    · by_cases h2 : y < x
      · rw [if_pos h2, if_neg h, if_pos h2]
      · rw [if_neg h2, if_neg h, if_neg h, if_neg h2]; exact cmpL_swap xs ys
theorem cmpL_zero : ∀ a b, cmpL a b = 0 → a = b
  | [], [], _ => rfl
  | [], _ :: _, h => by cases h
  | _ :: _, [], h => by cases h
  | x :: xs, y :: ys, h => by
    unfold cmpL at h
    by_cases h1 : x < y
    · rw [if_pos h1] at h; cases h
    · rw [if_neg h1] at h
      by_cases h2 : y < x
      · rw [if_pos h2] at h; cases h
      · rw [if_neg h2] at h
        rw [cmpL_zero xs ys h, show x = y by omega]
theorem cmpL_self : ∀ a, cmpL a a = 0
  | [] => rfl
  | x :: xs => by
    unfold cmpL
    rw [if_neg (by omega), if_neg (by omega)]
    exact cmpL_self xs
theorem cmpL_trans : ∀ a b c, cmpL a b = -1 → cmpL b c = -1 → cmpL a c = -1
  | [], [], _, h, _ => by cases h
  | [], _ :: _, [], _, h => by cases h
  | [], _ :: _, _ :: _, _, _ => rfl
  | _ :: _, [], _, h, _ => by cases h
  | _ :: _, _ :: _, [], _, h => by cases h
  | x :: xs, y :: ys, z :: zs, h, h' => by
    unfold cmpL at h h' ⊢
    by_cases a1 : x < y
    · by_cases b1 : y < z
      · rw [if_pos (by omega)]
      · rw [if_neg b1] at h'
        by_cases b2 : z < y
        · rw [if_pos b2] at h'; cases h'
        · rw [if_pos (by omega)]
    · rw [if_neg a1] at h
      by_cases a2 : y < x
      · rw [if_pos a2] at h; cases h
      · rw [if_neg a2] at h
        by_cases b1 : y < z
        · rw [if_pos (by omega)]
        · rw [if_neg b1] at h'
          by_cases b2 : z < y
          · rw [if_pos b2] at h'; cases h'
          · rw [if_neg b2] at h'
            rw [if_neg (by omega), if_neg (by omega)]
            exact cmpL_trans xs ys zs h h'
/-- A number and its row: by the row, then by the number. -/
def tlt (a b : Int × List Int) : Prop := cmpL a.2 b.2 = -1 ∨ (cmpL a.2 b.2 = 0 ∧ a.1 < b.1)
instance (a b : Int × List Int) : Decidable (tlt a b) := by unfold tlt; infer_instance
theorem tlt_trans {a b c : Int × List Int} (h : tlt a b) (h' : tlt b c) : tlt a c := by
  rcases h with h | ⟨h, h1⟩
  · rcases h' with h' | ⟨h', h2⟩
    · exact .inl (cmpL_trans _ _ _ h h')
    · rw [cmpL_zero _ _ h'] at h; exact .inl h
  · rcases h' with h' | ⟨h', h2⟩
    · exact .inl (by rw [cmpL_zero _ _ h]; exact h')
    · exact .inr ⟨by rw [cmpL_zero _ _ h]; exact h', by omega⟩
theorem tlt_irr (a : Int × List Int) : ¬ tlt a a := by
  rintro (h | ⟨_, h⟩)
  · rw [cmpL_self] at h; cases h
  · omega
theorem tlt_tot (a b : Int × List Int) : tlt a b ∨ a = b ∨ tlt b a := by
  rcases cmpL_range a.2 b.2 with h | h | h
  · exact .inl (.inl h)
  · have e := cmpL_zero _ _ h
    rcases Int.lt_trichotomy a.1 b.1 with h1 | h1 | h1
    · exact .inl (.inr ⟨h, h1⟩)
    · exact .inr (.inl (Prod.ext h1 e))
    · exact .inr (.inr (.inr ⟨by rw [cmpL_swap, h]; rfl, h1⟩))
  · exact .inr (.inr (.inl (by rw [cmpL_swap, h])))
theorem tlt_ordr : Ordr tlt :=
  ⟨fun a b h h' => tlt_irr a (tlt_trans h h'), fun a b c h h' hc => by
    rcases tlt_tot a b with h1 | rfl | h1
    · exact h' (tlt_trans hc h1)
    · exact h' hc
    · exact h h1⟩
end Go.Proofs.YtgjepahhbecljaaDoor.Heap

namespace Go.Proofs.YtgjepahhbecljaaDoor.Heap
abbrev T := Int × List Int
def t0 : T := (0, [])
/-- How far to the left, from place k on. -/
def posK (l : List T) (h : List Int) : Nat → Nat
  | 0 => 0
  | k + 1 => if cmpL (l.getD k t0).2 h = 1 then posK l h k else k + 1
theorem posK_le (l : List T) (h : List Int) : ∀ k, posK l h k ≤ k
  | 0 => Nat.le_refl _
  | k + 1 => by
    unfold posK
    split
    · exact Nat.le_succ_of_le (posK_le l h k)
    · exact Nat.le_refl _
theorem posK_right (l : List T) (h : List Int) : ∀ k j, posK l h k ≤ j → j < k → cmpL (l.getD j t0).2 h = 1
  | 0, j, _, hj => absurd hj (by omega)
  | k + 1, j, h1, hj => by
    unfold posK at h1
    split at h1
    · rename_i hc
      by_cases e : j = k
      · rw [e]; exact hc
      · exact posK_right l h k j h1 (by omega)
    · omega
theorem posK_left (l : List T) (h : List Int) : ∀ k, posK l h k = 0 ∨ ∃ j, posK l h k = j + 1 ∧ cmpL (l.getD j t0).2 h ≠ 1
  | 0 => .inl rfl
  | k + 1 => by
    unfold posK
    split
    · exact posK_left l h k
    · rename_i hc
      exact .inr ⟨k, rfl, hc⟩
/-- One more. -/
def insT (l : List T) (x : T) : List T := l.take (posK l x.2 l.length) ++ x :: l.drop (posK l x.2 l.length)
theorem insT_perm (l : List T) (x : T) : (insT l x).Perm (x :: l) := by
  unfold insT
  refine List.perm_middle.trans ?_
  rw [List.take_append_drop]
theorem insT_len (l : List T) (x : T) : (insT l x).length = l.length + 1 := by rw [(insT_perm l x).length_eq, List.length_cons]
theorem insT_sorted (l : List T) (x : T) (hs : l.Pairwise tlt) (hn : ∀ y ∈ l, y.1 < x.1) : (insT l x).Pairwise tlt := by
  have hl := posK_le l x.2 l.length
  have hd : ∀ j (hj : j < l.length), l.getD j t0 = l[j] := fun j hj => by rw [List.getD_eq_getElem?_getD, List.getElem?_eq_getElem hj]; rfl
  have hR : ∀ y ∈ l.drop (posK l x.2 l.length), tlt x y := fun y hy => by
    obtain ⟨i, hi, rfl⟩ := List.getElem_of_mem hy
    rw [List.getElem_drop]
    rw [List.length_drop] at hi
    have := posK_right l x.2 l.length (posK l x.2 l.length + i) (by omega) (by omega)
    rw [hd _ (by omega)] at this
    exact .inl (by rw [cmpL_swap, this])
  have hL : ∀ y ∈ l.take (posK l x.2 l.length), tlt y x := fun y hy => by
    obtain ⟨i, hi, rfl⟩ := List.getElem_of_mem hy
    rw [List.length_take] at hi
    rw [List.getElem_take]
    rcases posK_left l x.2 l.length with h0 | ⟨j, hj, hc⟩
    · omega
    · have hjl : j < l.length := by omega
      rw [hd j hjl] at hc
      have hjx : tlt l[j] x := by
        rcases cmpL_range l[j].2 x.2 with h | h | h
        · exact .inl h
        · exact .inr ⟨h, hn _ (List.getElem_mem hjl)⟩
        · exact absurd h hc
      by_cases e : i = j
      · subst e; exact hjx
      · exact tlt_trans (List.pairwise_iff_getElem.1 hs i j (by omega) hjl (by omega)) hjx
  unfold insT
  rw [List.pairwise_append]
  refine ⟨hs.sublist (List.take_sublist _ _), List.pairwise_cons.2 ⟨hR, hs.sublist (List.drop_sublist _ _)⟩, fun a ha b hb => ?_⟩
  rcases List.mem_cons.1 hb with rfl | hb
  · exact hL a ha
  · exact tlt_trans (hL a ha) (hR b hb)
/-- The servers below m, each with its hash, in order. -/
def ordT (f : Nat → List Int) : Nat → List T
  | 0 => []
  | m + 1 => insT (ordT f m) ((m : Int), f m)
theorem ordT_len (f : Nat → List Int) : ∀ m, (ordT f m).length = m
  | 0 => rfl
  | m + 1 => by rw [ordT, insT_len, ordT_len f m]
theorem ordT_mem (f : Nat → List Int) : ∀ m y, y ∈ ordT f m → 0 ≤ y.1 ∧ y.1 < m
  | 0, y, h => by cases h
  | m + 1, y, h => by
    rcases List.mem_cons.1 ((insT_perm _ _).mem_iff.1 h) with rfl | h
    · simp; omega
    · have := ordT_mem f m y h; omega
theorem ordT_sorted (f : Nat → List Int) : ∀ m, (ordT f m).Pairwise tlt
  | 0 => List.Pairwise.nil
  | m + 1 => insT_sorted _ _ (ordT_sorted f m) fun y hy => (ordT_mem f m y hy).2
/-- All of them, each once. -/
def allT (f : Nat → List Int) (m : Nat) : List T := (List.range m).map fun (i : Nat) => ((i : Int), f i)
theorem ordT_perm (f : Nat → List Int) : ∀ m, (ordT f m).Perm (allT f m)
  | 0 => List.Perm.refl _
  | m + 1 => by
    refine (insT_perm _ _).trans ?_
    unfold allT
    rw [List.range_succ, List.map_append]
    exact ((List.Perm.cons _ (ordT_perm f m)).trans (List.perm_append_singleton _ _).symm)
/-- Whatever rises and holds all of them is the order. -/
theorem ordT_only (f : Nat → List Int) (m : Nat) (l : List T) (hs : l.Pairwise tlt) (hp : l.Perm (allT f m)) : l = ordT f m :=
  sorted_eq (fun a b h h' => tlt_irr a (tlt_trans h h')) _ _ hs (ordT_sorted f m) (hp.trans (ordT_perm f m).symm)
end Go.Proofs.YtgjepahhbecljaaDoor.Heap

namespace Go.Proofs.YtgjepahhbecljaaDoor.Heap
/-- A row as a function of the place. -/
def fn (l : List T) : Nat → T := fun k => l.getD k t0
/-- Two changed over. -/
def swpL (l : List T) (i j : Nat) : List T := (l.set i (l.getD j t0)).set j (l.getD i t0)
theorem swpL_len (l : List T) (i j : Nat) : (swpL l i j).length = l.length := by unfold swpL; rw [List.length_set, List.length_set]
theorem getD_in (l : List T) {j : Nat} (hj : j < l.length) : l.getD j t0 = l[j] := by rw [List.getD_eq_getElem?_getD, List.getElem?_eq_getElem hj]; rfl
theorem swpL_perm (l : List T) {i j : Nat} (hi : i < l.length) (hj : j < l.length) : (swpL l i j).Perm l := by
  unfold swpL
  rw [getD_in l hj, getD_in l hi]
  exact List.set_set_perm hi hj
theorem swpL_fn (l : List T) {i j : Nat} (hi : i < l.length) (hj : j < l.length) : fn (swpL l i j) = swp (fn l) i j := by
  funext k
  unfold fn swp swpL
  by_cases e : k = i
  · rw [if_pos e]
    by_cases e2 : j = k
    · subst e2
      rw [List.getD_eq_getElem?_getD, List.getElem?_set_self (by rw [List.length_set]; omega), e]
      rfl
    · rw [List.getD_eq_getElem?_getD, List.getElem?_set_ne e2, e, List.getElem?_set_self hi]
      rfl
  · rw [if_neg e]
    by_cases e2 : k = j
    · rw [if_pos e2, e2, List.getD_eq_getElem?_getD, List.getElem?_set_self (by rw [List.length_set]; omega)]
      rfl
    · rw [if_neg e2, List.getD_eq_getElem?_getD, List.getElem?_set_ne (Ne.symm e2), List.getElem?_set_ne (Ne.symm e)]
      exact (List.getD_eq_getElem?_getD ..).symm
theorem is_cut {f g : Nat → T} {n : Nat} (h : Is tlt f n) (he : ∀ k, k < n → g k = f k) : Is tlt g n := fun k k0 kn => by
  rw [he k kn, he (par k) (by have := par_lt k0; omega)]
  exact h k k0 kn
theorem fn_app (l : List T) (x : T) {k : Nat} (hk : k < l.length) : fn (l ++ [x]) k = fn l k := by
  unfold fn
  rw [List.getD_eq_getElem?_getD, List.getElem?_append_left hk, List.getD_eq_getElem?_getD]
theorem fn_last (l : List T) (x : T) : fn (l ++ [x]) l.length = x := by
  unfold fn
  rw [List.getD_eq_getElem?_getD, List.getElem?_append_right (Nat.le_refl _), Nat.sub_self]
  rfl
/-- One is laid behind a heap: it may be too far down. -/
theorem push_new {l : List T} (h : Is tlt (fn l) l.length) (x : T) : Up tlt (fn (l ++ [x])) (l.length + 1) l.length :=
  up_new (is_cut h fun k hk => fn_app l x hk)
/-- What is out and what is in the heap. -/
structure Taken (f : Nat → List Int) (m : Nat) (out h : List T) : Prop where
  rise : out.Pairwise tlt
  less : ∀ a ∈ out, ∀ b ∈ h, tlt a b
  heap : Is tlt (fn h) h.length
  all : (out ++ h).Perm (allT f m)
theorem allT_nodup (f : Nat → List Int) (m : Nat) : (allT f m).Nodup := by
  unfold allT
  rw [List.Nodup, List.pairwise_map]
  exact (List.nodup_range (n := m)).imp fun {a b} hab he => hab (by have := congrArg Prod.fst he; simp at this; omega)
/-- The first one of the heap goes behind those that are out. -/
theorem Taken.step {f : Nat → List Int} {m : Nat} {out h h' : List T} {x : T} (t : Taken f m out h) (h0 : 0 < h.length) (hx : x = h.getD 0 t0) (hp : h.Perm (x :: h')) (hh : Is tlt (fn h') h'.length) : Taken f m (out ++ [x]) h' := by
  have hmin : ∀ b ∈ h', ¬ tlt b x := fun b hb => by
    have hbh : b ∈ h := hp.symm.subset (List.mem_cons_of_mem _ hb)
    obtain ⟨k, hk, rfl⟩ := List.getElem_of_mem hbh
    have := top tlt_ordr t.heap h.length k (by omega) hk
    unfold fn at this
    rw [getD_in h hk, ← hx] at this
    exact this
  have hall : (out ++ [x] ++ h').Perm (allT f m) := by
    rw [List.append_assoc]
    exact ((List.perm_append_left_iff out).2 hp.symm).trans t.all
  have hnd : (out ++ [x] ++ h').Nodup := hall.nodup_iff.2 (allT_nodup f m)
  have hxh : x ∈ h := hp.symm.subset List.mem_cons_self
  refine ⟨?_, fun a ha b hb => ?_, hh, hall⟩
  · rw [List.pairwise_append]
    exact ⟨t.rise, List.pairwise_singleton _ _, fun a ha b hb => by rw [List.mem_singleton.1 hb]; exact t.less a ha x hxh⟩
  · rcases List.mem_append.1 ha with ha | ha
    · exact t.less a ha b (hp.symm.subset (List.mem_cons_of_mem _ hb))
    · rw [List.mem_singleton.1 ha]
      rcases tlt_tot x b with h1 | h1 | h1
      · exact h1
      · exfalso
        subst h1
        have := (List.nodup_append.1 hnd).2.2 x (by simp) x hb
        exact this rfl
      · exact absurd h1 (hmin b hb)
/-- All are out: it is the order. -/
theorem Taken.done {f : Nat → List Int} {m : Nat} {out : List T} (t : Taken f m out []) : out = ordT f m :=
  ordT_only f m out t.rise (by have := t.all; rwa [List.append_nil] at this)
/-- The first and the last one changed over: the first one may be too far up. -/
theorem pop_new {h : List T} {n : Nat} (hn : h.length = n + 1) (hh : Is tlt (fn h) h.length) : Dn tlt (fn (swpL h 0 n)) n 0 := by
  rw [swpL_fn h (by omega) (by omega)]
  exact dn_new (by rw [← hn]; exact hh)
end Go.Proofs.YtgjepahhbecljaaDoor.Heap

namespace Go.Proofs.YtgjepahhbecljaaDoor.Heap
theorem par_succ {j : Nat} (h : 0 < j) : par j = (j - 1) / 2 := rfl
theorem up_stepL {l : List T} {j : Nat} (h : Up tlt (fn l) l.length j) (h0 : 0 < j) (hj : j < l.length) (hl : tlt (fn l j) (fn l (par j))) : Up tlt (fn (swpL l (par j) j)) (swpL l (par j) j).length (par j) := by
  have hp := par_lt h0
  rw [swpL_len, swpL_fn l (by omega) hj]
  exact up_step tlt_ordr h h0 hj hl
theorem swpL_drop (l : List T) {i j n : Nat} (hi : i < n) (hj : j < n) : (swpL l i j).drop n = l.drop n := by
  unfold swpL
  rw [List.drop_set_of_lt hj, List.drop_set_of_lt hi]
/-- The lesser one of two below. -/
def Least (f : Nat → T) (n i j : Nat) : Prop := ∀ k, 0 < k → k < n → par k = i → ¬ tlt (f k) (f j)
theorem par_cases {k i : Nat} (h0 : 0 < k) (h : par k = i) : k = 2 * i + 1 ∨ k = 2 * i + 2 := by unfold par at h; omega
theorem least_one {f : Nat → T} {n i : Nat} (h : ¬ (2 * i + 2 < n ∧ tlt (f (2 * i + 2)) (f (2 * i + 1)))) : Least f n i (2 * i + 1) := fun k k0 kn kp hl => by
  rcases par_cases k0 kp with rfl | rfl
  · exact tlt_irr _ hl
  · exact h ⟨kn, hl⟩
theorem least_two {f : Nat → T} {n i : Nat} (h : tlt (f (2 * i + 2)) (f (2 * i + 1))) : Least f n i (2 * i + 2) := fun k k0 kn kp hl => by
  rcases par_cases k0 kp with rfl | rfl
  · exact tlt_irr _ (tlt_trans h hl)
  · exact tlt_irr _ hl
theorem dn_none {f : Nat → T} {n i : Nat} (h : Dn tlt f n i) (hn : n ≤ 2 * i + 1) : Is tlt f n := dn_done h fun k k0 kn kp => by
  rcases par_cases k0 kp with rfl | rfl <;> omega
theorem dn_stop {f : Nat → T} {n i j : Nat} (h : Dn tlt f n i) (hL : Least f n i j) (hl : ¬ tlt (f j) (f i)) : Is tlt f n := dn_done h fun k k0 kn kp => tlt_ordr.trans _ _ _ hl (hL k k0 kn kp)
theorem dn_stepL {l : List T} {n i j : Nat} (h : Dn tlt (fn l) n i) (hn : n ≤ l.length) (j0 : 0 < j) (hj : j < n) (hp : par j = i) (hl : tlt (fn l j) (fn l i)) (hL : Least (fn l) n i j) : Dn tlt (fn (swpL l i j)) n j := by
  have hij := par_lt j0
  rw [swpL_fn l (by omega) (by omega)]
  exact dn_step tlt_ordr h j0 hj hp hl hL
/-- The first one is out: what was last is in its place, and has gone down. -/
theorem pop_done {l l2 : List T} {n : Nat} (hn : l.length = n + 1) (hp : l2.Perm (swpL l 0 n)) (hd : l2.drop n = (swpL l 0 n).drop n) (hi : Is tlt (fn l2) n) :
    fn l2 n = l.getD 0 t0 ∧ l.Perm (l.getD 0 t0 :: l2.take n) ∧ Is tlt (fn (l2.take n)) (l2.take n).length := by
  have hl2 : l2.length = n + 1 := by rw [hp.length_eq, swpL_len, hn]
  have h0 : fn l2 n = l.getD 0 t0 := by
    have e : fn (swpL l 0 n) n = fn l 0 := by rw [swpL_fn l (by omega) (by omega), swp_r]
    have e2 : fn l2 n = fn (swpL l 0 n) n := by
      have := congrArg (fun x => x[0]?) hd
      simp only [List.getElem?_drop, Nat.add_zero] at this
      unfold fn
      rw [List.getD_eq_getElem?_getD, List.getD_eq_getElem?_getD, this]
    rw [e2, e]; rfl
  refine ⟨h0, ?_, ?_⟩
  · have h1 : l.Perm l2 := (hp.trans (swpL_perm l (by omega) (by omega))).symm
    have h2 : l2 = l2.take n ++ [fn l2 n] := by
      have hx : fn l2 n = l2[n] := getD_in l2 (by omega)
      rw [hx]
      have := List.take_succ_eq_append_getElem (l := l2) (i := n) (by omega)
      rw [← this, List.take_of_length_le (by omega)]
    rw [h2, h0] at h1
    exact h1.trans (List.perm_append_singleton _ _)
  · rw [List.length_take, hl2, Nat.min_eq_left (by omega)]
    exact is_cut hi fun k hk => by
      unfold fn
      rw [List.getD_eq_getElem?_getD, List.getElem?_take_of_lt hk, ← List.getD_eq_getElem?_getD]
end Go.Proofs.YtgjepahhbecljaaDoor.Heap
