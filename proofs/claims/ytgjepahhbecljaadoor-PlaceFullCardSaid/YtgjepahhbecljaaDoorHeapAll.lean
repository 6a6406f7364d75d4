/- A heap in a row, as a law of its own: what an element's way up or down keeps. No program in sight.
Rows that rise and hold the same are the same; an order of numbered rows of bytes. No program in sight.
The order of servers, as the document makes it: each behind those that are not greater. No program in sight.
A heap's row: two changed over; the first one taken: what is taken rises. No program in sight.
The way up and the way down in a heap's row, as laws on rows; the first one taken. No program in sight.
A row of turns (a server and its hash), the call's own: 33 cells each. No condition.
bytes.Compare: rows of bytes compared from the first on. No condition.
The heap's rows of turns: how many, and which of two is before the other. No condition.
The heap's Swap: two turns of a row changed over. No condition.
An interface's turn: taken out of it. No condition.
The heap of turns behind a pointer: what a step on it leaves, and which function an interface's method is. No condition.
container/heap's up on a row of turns: an element's way up. Condition: the row is a heap but for that element.
container/heap's down on a row of turns: the first one's way down. Condition: the row is a heap but for that element.
The heap's rows: one laid behind, the last one taken; container/heap's Push and Pop. Condition: at most a thousand.
container/heap's Push and Pop on a row of turns. Condition: at most a thousand; the row is a heap. -/
import Derived.Test.YtgjepahhbecljaaDoorBase
import Derived.Test.YtgjepahhbecljaaDoorKeep
import Derived.Test.YtgjepahhbecljaaDoorCells
import Derived.Lib.Bytealg
import Derived.Test.YtgjepahhbecljaaDoorQuiet
import Derived.Test.YtgjepahhbecljaaDoorTakeD
import Derived.Test.YtgjepahhbecljaaDoorRowB
namespace Go.Proofs.YtgjepahhbecljaaDoor.Heap
variable {α : Type} {lt : α → α → Prop}

/-- An order: no two are each before the other; what is not behind is carried on. -/
structure Ordr (lt : α → α → Prop) : Prop where
  asymm : ∀ a b, lt a b → ¬ lt b a
  trans : ∀ a b c, ¬ lt b a → ¬ lt c b → ¬ lt c a
def par (k : Nat) : Nat := (k - 1) / 2
def swp (f : Nat → α) (i j : Nat) : Nat → α := fun k => if k = i then f j else if k = j then f i else f k
/-- Nobody is before the one above it. -/
def Is (lt : α → α → Prop) (f : Nat → α) (n : Nat) : Prop := ∀ k, 0 < k → k < n → ¬ lt (f k) (f (par k))
/-- A heap but for number j, which may be too far down. -/
def Up (lt : α → α → Prop) (f : Nat → α) (n j : Nat) : Prop :=
  (∀ k, 0 < k → k < n → k ≠ j → ¬ lt (f k) (f (par k))) ∧ ∀ k, 0 < k → k < n → par k = j → 0 < j → ¬ lt (f k) (f (par j))
/-- A heap but for number i, which may be too far up. -/
def Dn (lt : α → α → Prop) (f : Nat → α) (n i : Nat) : Prop :=
  (∀ k, 0 < k → k < n → par k ≠ i → ¬ lt (f k) (f (par k))) ∧ ∀ k, 0 < k → k < n → par k = i → 0 < i → ¬ lt (f k) (f (par i))
theorem par_lt {k : Nat} (h : 0 < k) : par k < k := by unfold par; omega
theorem swp_l (f : Nat → α) (i j : Nat) : swp f i j i = f j := if_pos rfl
theorem swp_r (f : Nat → α) (i j : Nat) : swp f i j j = f i := by
  unfold swp
  by_cases h : j = i
  · rw [if_pos h, h]
  · rw [if_neg h, if_pos rfl]
theorem swp_o (f : Nat → α) {i j k : Nat} (h1 : k ≠ i) (h2 : k ≠ j) : swp f i j k = f k := by
  unfold swp
  rw [if_neg h1, if_neg h2]
theorem up_new {f : Nat → α} {n : Nat} (h : Is lt f n) : Up lt f (n + 1) n :=
  ⟨fun k h0 hk hn => h k h0 (by omega), fun k h0 hk hp h2 => by have := par_lt h0; omega⟩
theorem up_step (O : Ordr lt) {f : Nat → α} {n j : Nat} (h : Up lt f n j) (h0 : 0 < j) (hj : j < n) (hl : lt (f j) (f (par j))) : Up lt (swp f (par j) j) n (par j) := by
  have hp := par_lt h0
  refine ⟨fun k k0 kn ki => ?_, fun k k0 kn kp i0 => ?_⟩
  · have hk := par_lt k0
    by_cases e : k = j
    · subst e
      rw [swp_r, swp_l]
      exact O.asymm _ _ hl
    · rw [swp_o f ki e]
      by_cases e1 : par k = par j
      · rw [e1, swp_l]
        have h1 := h.1 k k0 kn e
        rw [e1] at h1
        exact O.trans _ _ _ (O.asymm _ _ hl) h1
      · by_cases e2 : par k = j
        · rw [e2, swp_r]
          exact h.2 k k0 kn e2 h0
        · rw [swp_o f e1 e2]
          exact h.1 k k0 kn e
  · have hi := par_lt i0
    have hk := par_lt k0
    have hpi := h.1 (par j) i0 (by omega) (by omega)
    rw [swp_o f (by omega : par (par j) ≠ par j) (by omega : par (par j) ≠ j)]
    by_cases e : k = j
    · rw [e, swp_r]
      exact hpi
    · rw [swp_o f (by omega) e]
      have h1 := h.1 k k0 kn e
      rw [kp] at h1
      exact O.trans _ _ _ hpi h1
theorem up_done {f : Nat → α} {n j : Nat} (h : Up lt f n j) (hd : j = 0 ∨ ¬ lt (f j) (f (par j))) : Is lt f n := fun k k0 kn => by
  by_cases e : k = j
  · subst e
    rcases hd with hd | hd
    · omega
    · exact hd
  · exact h.1 k k0 kn e
theorem dn_step (O : Ordr lt) {f : Nat → α} {n i j : Nat} (h : Dn lt f n i) (j0 : 0 < j) (hj : j < n) (hp : par j = i) (hl : lt (f j) (f i)) (ho : ∀ k, 0 < k → k < n → par k = i → ¬ lt (f k) (f j)) : Dn lt (swp f i j) n j := by
  have hij : i < j := by have := par_lt j0; omega
  refine ⟨fun k k0 kn kp => ?_, fun k k0 kn kp _ => ?_⟩
  · have hk := par_lt k0
    by_cases e : k = j
    · subst e
      rw [hp, swp_r, swp_l]
      exact O.asymm _ _ hl
    · by_cases e1 : par k = i
      · rw [e1, swp_l, swp_o f (by omega) e]
        exact ho k k0 kn e1
      · rw [swp_o f e1 kp]
        by_cases e2 : k = i
        · subst e2
          rw [swp_l]
          exact h.2 j j0 hj hp k0
        · rw [swp_o f e2 e]
          exact h.1 k k0 kn e1
  · have hk := par_lt k0
    rw [hp, swp_l, swp_o f (by omega) (by omega)]
    have := h.1 k k0 kn (by omega)
    rw [kp] at this
    exact this
theorem dn_done {f : Nat → α} {n i : Nat} (h : Dn lt f n i) (hd : ∀ k, 0 < k → k < n → par k = i → ¬ lt (f k) (f i)) : Is lt f n := fun k k0 kn => by
  by_cases e : par k = i
  · rw [e]
    exact hd k k0 kn e
  · exact h.1 k k0 kn e
theorem dn_new {f : Nat → α} {n : Nat} (h : Is lt f (n + 1)) : Dn lt (swp f 0 n) n 0 := by
  refine ⟨fun k k0 kn kp => ?_, fun k k0 kn kp i0 => absurd i0 (by omega)⟩
  have hk := par_lt k0
  rw [swp_o f (by omega) (by omega), swp_o f kp (by omega)]
  exact h k k0 (by omega)
/-- Nobody is before the first one. -/
theorem top (O : Ordr lt) {f : Nat → α} {n : Nat} (h : Is lt f n) : ∀ m k, k ≤ m → k < n → ¬ lt (f k) (f 0)
  | 0, k, hm, hk => by
    obtain rfl : k = 0 := by omega
    exact fun hl => O.asymm _ _ hl hl
  | m + 1, k, hm, hk => by
    by_cases e : k = 0
    · subst e
      exact fun hl => O.asymm _ _ hl hl
    · have hp := par_lt (k := k) (by omega)
      exact O.trans _ _ _ (top O h m (par k) (by omega) (by omega)) (h k (by omega) hk)
end Go.Proofs.YtgjepahhbecljaaDoor.Heap

namespace Go.Proofs.YtgjepahhbecljaaDoor.Heap
variable {α : Type}
theorem sorted_eq {r : α → α → Prop} (hr : ∀ a b, r a b → ¬ r b a) : ∀ l1 l2 : List α, l1.Pairwise r → l2.Pairwise r → l1.Perm l2 → l1 = l2
  | [], l2, _, _, hp => hp.nil_eq
  | a :: t1, l2, h1, h2, hp => by
    match l2, h2, hp with
    | [], _, hp => exact absurd hp.symm.nil_eq (by simp)
    | b :: t2, h2, hp =>
      have hab : a = b := by
        rcases List.mem_cons.1 (hp.subset (List.mem_cons_self)) with h | h
        · exact h
        · rcases List.mem_cons.1 (hp.symm.subset (List.mem_cons_self)) with h' | h'
          · exact h'.symm
          · exact absurd ((List.pairwise_cons.1 h1).1 b h') (hr _ _ ((List.pairwise_cons.1 h2).1 a h))
      subst hab
      rw [sorted_eq hr t1 t2 (List.pairwise_cons.1 h1).2 (List.pairwise_cons.1 h2).2 hp.cons_inv]
/-- Rows of numbers, compared from the first on. -/
def cmpL : List Int → List Int → Int
  | [], [] => 0
  | [], _ :: _ => -1
  | _ :: _, [] => 1
  | x :: xs, y :: ys => if x < y then -1 else if y < x then 1 else cmpL xs ys
theorem cmpL_range : ∀ a b, cmpL a b = -1 ∨ cmpL a b = 0 ∨ cmpL a b = 1
  | [], [] => .inr (.inl rfl)
  | [], _ :: _ => .inl rfl
  | _ :: _, [] => .inr (.inr rfl)
  | x :: xs, y :: ys => by
    unfold cmpL
    by_cases h : x < y
    · rw [if_pos h]; exact .inl rfl
    · rw [if_neg h]
      by_cases h2 : y < x
      · rw [if_pos h2]; exact .inr (.inr rfl)
      · rw [if_neg h2]; exact cmpL_range xs ys
theorem cmpL_swap : ∀ a b, cmpL b a = -cmpL a b
  | [], [] => rfl
  | [], _ :: _ => rfl
  | _ :: _, [] => rfl
  | x :: xs, y :: ys => by
    unfold cmpL
    by_cases h : x < y
    · rw [if_neg (by omega), if_pos h, if_pos h]; rfl
    · by_cases h2 : y < x
      · rw [if_pos h2, if_neg h, if_pos h2]
      · rw [if_neg h2, if_neg h, if_neg h, if_neg h2]; exact cmpL_swap xs ys
theorem cmpL_zero : ∀ a b, cmpL a b = 0 → a = b
  | [], [], _ => rfl
  | [], _ :: _, h => by cases h
  | _ :: _, [], h => by cases h
  | x :: xs, y :: ys, h => by
    unfold cmpL at h
    by_cases h1 : x < y
    · rw [if_pos h1] at h; cases h
    · rw [if_neg h1] at h
      by_cases h2 : y < x
      · rw [if_pos h2] at h; cases h
      · rw [if_neg h2] at h
        rw [cmpL_zero xs ys h, show x = y by omega]
theorem cmpL_self : ∀ a, cmpL a a = 0
  | [] => rfl
  | x :: xs => by
    unfold cmpL
    rw [if_neg (by omega), if_neg (by omega)]
    exact cmpL_self xs
theorem cmpL_trans : ∀ a b c, cmpL a b = -1 → cmpL b c = -1 → cmpL a c = -1
  | [], [], _, h, _ => by cases h
  | [], _ :: _, [], _, h => by cases h
  | [], _ :: _, _ :: _, _, _ => rfl
  | _ :: _, [], _, h, _ => by cases h
  | _ :: _, _ :: _, [], _, h => by cases h
  | x :: xs, y :: ys, z :: zs, h, h' => by
    unfold cmpL at h h' ⊢
    by_cases a1 : x < y
    · by_cases b1 : y < z
      · rw [if_pos (by omega)]
      · rw [if_neg b1] at h'
        by_cases b2 : z < y
        · rw [if_pos b2] at h'; cases h'
        · rw [if_pos (by omega)]
    · rw [if_neg a1] at h
      by_cases a2 : y < x
      · rw [if_pos a2] at h; cases h
      · rw [if_neg a2] at h
        by_cases b1 : y < z
        · rw [if_pos (by omega)]
        · rw [if_neg b1] at h'
          by_cases b2 : z < y
          · rw [if_pos b2] at h'; cases h'
          · rw [if_neg b2] at h'
            rw [if_neg (by omega), if_neg (by omega)]
            exact cmpL_trans xs ys zs h h'
/-- A number and its row: by the row, then by the number. -/
def tlt (a b : Int × List Int) : Prop := cmpL a.2 b.2 = -1 ∨ (cmpL a.2 b.2 = 0 ∧ a.1 < b.1)
instance (a b : Int × List Int) : Decidable (tlt a b) := by unfold tlt; infer_instance
theorem tlt_trans {a b c : Int × List Int} (h : tlt a b) (h' : tlt b c) : tlt a c := by
  rcases h with h | ⟨h, h1⟩
  · rcases h' with h' | ⟨h', h2⟩
    · exact .inl (cmpL_trans _ _ _ h h')
    · rw [cmpL_zero _ _ h'] at h; exact .inl h
  · rcases h' with h' | ⟨h', h2⟩
    · exact .inl (by rw [cmpL_zero _ _ h]; exact h')
    · exact .inr ⟨by rw [cmpL_zero _ _ h]; exact h', by omega⟩
theorem tlt_irr (a : Int × List Int) : ¬ tlt a a := by
  rintro (h | ⟨_, h⟩)
  · rw [cmpL_self] at h; cases h
  · omega
theorem tlt_tot (a b : Int × List Int) : tlt a b ∨ a = b ∨ tlt b a := by
  rcases cmpL_range a.2 b.2 with h | h | h
  · exact .inl (.inl h)
  · have e := cmpL_zero _ _ h
    rcases Int.lt_trichotomy a.1 b.1 with h1 | h1 | h1
    · exact .inl (.inr ⟨h, h1⟩)
    · exact .inr (.inl (Prod.ext h1 e))
    · exact .inr (.inr (.inr ⟨by rw [cmpL_swap, h]; rfl, h1⟩))
  · exact .inr (.inr (.inl (by rw [cmpL_swap, h])))
theorem tlt_ordr : Ordr tlt :=
  ⟨fun a b h h' => tlt_irr a (tlt_trans h h'), fun a b c h h' hc => by
    rcases tlt_tot a b with h1 | rfl | h1
    · exact h' (tlt_trans hc h1)
    · exact h' hc
    · exact h h1⟩
end Go.Proofs.YtgjepahhbecljaaDoor.Heap

namespace Go.Proofs.YtgjepahhbecljaaDoor.Heap
abbrev T := Int × List Int
def t0 : T := (0, [])
/-- How far to the left, from place k on. -/
def posK (l : List T) (h : List Int) : Nat → Nat
  | 0 => 0
  | k + 1 => if cmpL (l.getD k t0).2 h = 1 then posK l h k else k + 1
theorem posK_le (l : List T) (h : List Int) : ∀ k, posK l h k ≤ k
  | 0 => Nat.le_refl _
  | k + 1 => by
    unfold posK
    split
    · exact Nat.le_succ_of_le (posK_le l h k)
    · exact Nat.le_refl _
theorem posK_right (l : List T) (h : List Int) : ∀ k j, posK l h k ≤ j → j < k → cmpL (l.getD j t0).2 h = 1
  | 0, j, _, hj => absurd hj (by omega)
  | k + 1, j, h1, hj => by
    unfold posK at h1
    split at h1
    · rename_i hc
      by_cases e : j = k
      · rw [e]; exact hc
      · exact posK_right l h k j h1 (by omega)
    · omega
theorem posK_left (l : List T) (h : List Int) : ∀ k, posK l h k = 0 ∨ ∃ j, posK l h k = j + 1 ∧ cmpL (l.getD j t0).2 h ≠ 1
  | 0 => .inl rfl
  | k + 1 => by
    unfold posK
    split
    · exact posK_left l h k
    · rename_i hc
      exact .inr ⟨k, rfl, hc⟩
/-- One more. -/
def insT (l : List T) (x : T) : List T := l.take (posK l x.2 l.length) ++ x :: l.drop (posK l x.2 l.length)
theorem insT_perm (l : List T) (x : T) : (insT l x).Perm (x :: l) := by
  unfold insT
  refine List.perm_middle.trans ?_
  rw [List.take_append_drop]
theorem insT_len (l : List T) (x : T) : (insT l x).length = l.length + 1 := by rw [(insT_perm l x).length_eq, List.length_cons]
theorem insT_sorted (l : List T) (x : T) (hs : l.Pairwise tlt) (hn : ∀ y ∈ l, y.1 < x.1) : (insT l x).Pairwise tlt := by
  have hl := posK_le l x.2 l.length
  have hd : ∀ j (hj : j < l.length), l.getD j t0 = l[j] := fun j hj => by rw [List.getD_eq_getElem?_getD, List.getElem?_eq_getElem hj]; rfl
  have hR : ∀ y ∈ l.drop (posK l x.2 l.length), tlt x y := fun y hy => by
    obtain ⟨i, hi, rfl⟩ := List.getElem_of_mem hy
    rw [List.getElem_drop]
    rw [List.length_drop] at hi
    have := posK_right l x.2 l.length (posK l x.2 l.length + i) (by omega) (by omega)
    rw [hd _ (by omega)] at this
    exact .inl (by rw [cmpL_swap, this])
  have hL : ∀ y ∈ l.take (posK l x.2 l.length), tlt y x := fun y hy => by
    obtain ⟨i, hi, rfl⟩ := List.getElem_of_mem hy
    rw [List.length_take] at hi
    rw [List.getElem_take]
    rcases posK_left l x.2 l.length with h0 | ⟨j, hj, hc⟩
    · omega
    · have hjl : j < l.length := by omega
      rw [hd j hjl] at hc
      have hjx : tlt l[j] x := by
        rcases cmpL_range l[j].2 x.2 with h | h | h
        · exact .inl h
        · exact .inr ⟨h, hn _ (List.getElem_mem hjl)⟩
        · exact absurd h hc
      by_cases e : i = j
      · subst e; exact hjx
      · exact tlt_trans (List.pairwise_iff_getElem.1 hs i j (by omega) hjl (by omega)) hjx
  unfold insT
  rw [List.pairwise_append]
  refine ⟨hs.sublist (List.take_sublist _ _), List.pairwise_cons.2 ⟨hR, hs.sublist (List.drop_sublist _ _)⟩, fun a ha b hb => ?_⟩
  rcases List.mem_cons.1 hb with rfl | hb
  · exact hL a ha
  · exact tlt_trans (hL a ha) (hR b hb)
/-- The servers below m, each with its hash, in order. -/
def ordT (f : Nat → List Int) : Nat → List T
  | 0 => []
  | m + 1 => insT (ordT f m) ((m : Int), f m)
theorem ordT_len (f : Nat → List Int) : ∀ m, (ordT f m).length = m
  | 0 => rfl
  | m + 1 => by rw [ordT, insT_len, ordT_len f m]
theorem ordT_mem (f : Nat → List Int) : ∀ m y, y ∈ ordT f m → 0 ≤ y.1 ∧ y.1 < m
  | 0, y, h => by cases h
  | m + 1, y, h => by
    rcases List.mem_cons.1 ((insT_perm _ _).mem_iff.1 h) with rfl | h
    · simp; omega
    · have := ordT_mem f m y h; omega
theorem ordT_sorted (f : Nat → List Int) : ∀ m, (ordT f m).Pairwise tlt
  | 0 => List.Pairwise.nil
  | m + 1 => insT_sorted _ _ (ordT_sorted f m) fun y hy => (ordT_mem f m y hy).2
/-- All of them, each once. -/
def allT (f : Nat → List Int) (m : Nat) : List T := (List.range m).map fun (i : Nat) => ((i : Int), f i)
theorem ordT_perm (f : Nat → List Int) : ∀ m, (ordT f m).Perm (allT f m)
  | 0 => List.Perm.refl _
  | m + 1 => by
    refine (insT_perm _ _).trans ?_
    unfold allT
    rw [List.range_succ, List.map_append]
    exact ((List.Perm.cons _ (ordT_perm f m)).trans (List.perm_append_singleton _ _).symm)
/-- Whatever rises and holds all of them is the order. -/
theorem ordT_only (f : Nat → List Int) (m : Nat) (l : List T) (hs : l.Pairwise tlt) (hp : l.Perm (allT f m)) : l = ordT f m :=
  sorted_eq (fun a b h h' => tlt_irr a (tlt_trans h h')) _ _ hs (ordT_sorted f m) (hp.trans (ordT_perm f m).symm)
end Go.Proofs.YtgjepahhbecljaaDoor.Heap

namespace Go.Proofs.YtgjepahhbecljaaDoor.Heap
/-- A row as a function of the place. -/
def fn (l : List T) : Nat → T := fun k => l.getD k t0
/-- Two changed over. -/
def swpL (l : List T) (i j : Nat) : List T := (l.set i (l.getD j t0)).set j (l.getD i t0)
theorem swpL_len (l : List T) (i j : Nat) : (swpL l i j).length = l.length := by unfold swpL; rw [List.length_set, List.length_set]
theorem getD_in (l : List T) {j : Nat} (hj : j < l.length) : l.getD j t0 = l[j] := by rw [List.getD_eq_getElem?_getD, List.getElem?_eq_getElem hj]; rfl
theorem swpL_perm (l : List T) {i j : Nat} (hi : i < l.length) (hj : j < l.length) : (swpL l i j).Perm l := by
  unfold swpL
  rw [getD_in l hj, getD_in l hi]
  exact List.set_set_perm hi hj
theorem swpL_fn (l : List T) {i j : Nat} (hi : i < l.length) (hj : j < l.length) : fn (swpL l i j) = swp (fn l) i j := by
  funext k
  unfold fn swp swpL
  by_cases e : k = i
  · rw [if_pos e]
    by_cases e2 : j = k
    · subst e2
      rw [List.getD_eq_getElem?_getD, List.getElem?_set_self (by rw [List.length_set]; omega), e]
      rfl
    · rw [List.getD_eq_getElem?_getD, List.getElem?_set_ne e2, e, List.getElem?_set_self hi]
      rfl
  · rw [if_neg e]
    by_cases e2 : k = j
    · rw [if_pos e2, e2, List.getD_eq_getElem?_getD, List.getElem?_set_self (by rw [List.length_set]; omega)]
      rfl
    · rw [if_neg e2, List.getD_eq_getElem?_getD, List.getElem?_set_ne (Ne.symm e2), List.getElem?_set_ne (Ne.symm e)]
      exact (List.getD_eq_getElem?_getD ..).symm
theorem is_cut {f g : Nat → T} {n : Nat} (h : Is tlt f n) (he : ∀ k, k < n → g k = f k) : Is tlt g n := fun k k0 kn => by
  rw [he k kn, he (par k) (by have := par_lt k0; omega)]
  exact h k k0 kn
theorem fn_app (l : List T) (x : T) {k : Nat} (hk : k < l.length) : fn (l ++ [x]) k = fn l k := by
  unfold fn
  rw [List.getD_eq_getElem?_getD, List.getElem?_append_left hk, List.getD_eq_getElem?_getD]
theorem fn_last (l : List T) (x : T) : fn (l ++ [x]) l.length = x := by
  unfold fn
  rw [List.getD_eq_getElem?_getD, List.getElem?_append_right (Nat.le_refl _), Nat.sub_self]
  rfl
/-- One is laid behind a heap: it may be too far down. -/
theorem push_new {l : List T} (h : Is tlt (fn l) l.length) (x : T) : Up tlt (fn (l ++ [x])) (l.length + 1) l.length :=
  up_new (is_cut h fun k hk => fn_app l x hk)
/-- What is out and what is in the heap. -/
structure Taken (f : Nat → List Int) (m : Nat) (out h : List T) : Prop where
  rise : out.Pairwise tlt
  less : ∀ a ∈ out, ∀ b ∈ h, tlt a b
  heap : Is tlt (fn h) h.length
  all : (out ++ h).Perm (allT f m)
theorem allT_nodup (f : Nat → List Int) (m : Nat) : (allT f m).Nodup := by
  unfold allT
  rw [List.Nodup, List.pairwise_map]
  exact (List.nodup_range (n := m)).imp fun {a b} hab he => hab (by have := congrArg Prod.fst he; simp at this; omega)
/-- The first one of the heap goes behind those that are out. -/
theorem Taken.step {f : Nat → List Int} {m : Nat} {out h h' : List T} {x : T} (t : Taken f m out h) (h0 : 0 < h.length) (hx : x = h.getD 0 t0) (hp : h.Perm (x :: h')) (hh : Is tlt (fn h') h'.length) : Taken f m (out ++ [x]) h' := by
  have hmin : ∀ b ∈ h', ¬ tlt b x := fun b hb => by
    have hbh : b ∈ h := hp.symm.subset (List.mem_cons_of_mem _ hb)
    obtain ⟨k, hk, rfl⟩ := List.getElem_of_mem hbh
    have := top tlt_ordr t.heap h.length k (by omega) hk
    unfold fn at this
    rw [getD_in h hk, ← hx] at this
    exact this
  have hall : (out ++ [x] ++ h').Perm (allT f m) := by
    rw [List.append_assoc]
    exact ((List.perm_append_left_iff out).2 hp.symm).trans t.all
  have hnd : (out ++ [x] ++ h').Nodup := hall.nodup_iff.2 (allT_nodup f m)
  have hxh : x ∈ h := hp.symm.subset List.mem_cons_self
  refine ⟨?_, fun a ha b hb => ?_, hh, hall⟩
  · rw [List.pairwise_append]
    exact ⟨t.rise, List.pairwise_singleton _ _, fun a ha b hb => by rw [List.mem_singleton.1 hb]; exact t.less a ha x hxh⟩
  · rcases List.mem_append.1 ha with ha | ha
    · exact t.less a ha b (hp.symm.subset (List.mem_cons_of_mem _ hb))
    · rw [List.mem_singleton.1 ha]
      rcases tlt_tot x b with h1 | h1 | h1
      · exact h1
      · exfalso
        subst h1
        have := (List.nodup_append.1 hnd).2.2 x (by simp) x hb
        exact this rfl
      · exact absurd h1 (hmin b hb)
/-- All are out: it is the order. -/
theorem Taken.done {f : Nat → List Int} {m : Nat} {out : List T} (t : Taken f m out []) : out = ordT f m :=
  ordT_only f m out t.rise (by have := t.all; rwa [List.append_nil] at this)
/-- The first and the last one changed over: the first one may be too far up. -/
theorem pop_new {h : List T} {n : Nat} (hn : h.length = n + 1) (hh : Is tlt (fn h) h.length) : Dn tlt (fn (swpL h 0 n)) n 0 := by
  rw [swpL_fn h (by omega) (by omega)]
  exact dn_new (by rw [← hn]; exact hh)
end Go.Proofs.YtgjepahhbecljaaDoor.Heap

namespace Go.Proofs.YtgjepahhbecljaaDoor.Heap
theorem par_succ {j : Nat} (h : 0 < j) : par j = (j - 1) / 2 := rfl
theorem up_stepL {l : List T} {j : Nat} (h : Up tlt (fn l) l.length j) (h0 : 0 < j) (hj : j < l.length) (hl : tlt (fn l j) (fn l (par j))) : Up tlt (fn (swpL l (par j) j)) (swpL l (par j) j).length (par j) := by
  have hp := par_lt h0
  rw [swpL_len, swpL_fn l (by omega) hj]
  exact up_step tlt_ordr h h0 hj hl
theorem swpL_drop (l : List T) {i j n : Nat} (hi : i < n) (hj : j < n) : (swpL l i j).drop n = l.drop n := by
  unfold swpL
  rw [List.drop_set_of_lt hj, List.drop_set_of_lt hi]
/-- The lesser one of two below. -/
def Least (f : Nat → T) (n i j : Nat) : Prop := ∀ k, 0 < k → k < n → par k = i → ¬ tlt (f k) (f j)
theorem par_cases {k i : Nat} (h0 : 0 < k) (h : par k = i) : k = 2 * i + 1 ∨ k = 2 * i + 2 := by unfold par at h; omega
theorem least_one {f : Nat → T} {n i : Nat} (h : ¬ (2 * i + 2 < n ∧ tlt (f (2 * i + 2)) (f (2 * i + 1)))) : Least f n i (2 * i + 1) := fun k k0 kn kp hl => by
  rcases par_cases k0 kp with rfl | rfl
  · exact tlt_irr _ hl
  · exact h ⟨kn, hl⟩
theorem least_two {f : Nat → T} {n i : Nat} (h : tlt (f (2 * i + 2)) (f (2 * i + 1))) : Least f n i (2 * i + 2) := fun k k0 kn kp hl => by
  rcases par_cases k0 kp with rfl | rfl
  · exact tlt_irr _ (tlt_trans h hl)
  · exact tlt_irr _ hl
theorem dn_none {f : Nat → T} {n i : Nat} (h : Dn tlt f n i) (hn : n ≤ 2 * i + 1) : Is tlt f n := dn_done h fun k k0 kn kp => by
  rcases par_cases k0 kp with rfl | rfl <;> omega
theorem dn_stop {f : Nat → T} {n i j : Nat} (h : Dn tlt f n i) (hL : Least f n i j) (hl : ¬ tlt (f j) (f i)) : Is tlt f n := dn_done h fun k k0 kn kp => tlt_ordr.trans _ _ _ hl (hL k k0 kn kp)
theorem dn_stepL {l : List T} {n i j : Nat} (h : Dn tlt (fn l) n i) (hn : n ≤ l.length) (j0 : 0 < j) (hj : j < n) (hp : par j = i) (hl : tlt (fn l j) (fn l i)) (hL : Least (fn l) n i j) : Dn tlt (fn (swpL l i j)) n j := by
  have hij := par_lt j0
  rw [swpL_fn l (by omega) (by omega)]
  exact dn_step tlt_ordr h j0 hj hp hl hL
/-- The first one is out: what was last is in its place, and has gone down. -/
theorem pop_done {l l2 : List T} {n : Nat} (hn : l.length = n + 1) (hp : l2.Perm (swpL l 0 n)) (hd : l2.drop n = (swpL l 0 n).drop n) (hi : Is tlt (fn l2) n) :
    fn l2 n = l.getD 0 t0 ∧ l.Perm (l.getD 0 t0 :: l2.take n) ∧ Is tlt (fn (l2.take n)) (l2.take n).length := by
  have hl2 : l2.length = n + 1 := by rw [hp.length_eq, swpL_len, hn]
  have h0 : fn l2 n = l.getD 0 t0 := by
    have e : fn (swpL l 0 n) n = fn l 0 := by rw [swpL_fn l (by omega) (by omega), swp_r]
    have e2 : fn l2 n = fn (swpL l 0 n) n := by
      have := congrArg (fun x => x[0]?) hd
      simp only [List.getElem?_drop, Nat.add_zero] at this
      unfold fn
      rw [List.getD_eq_getElem?_getD, List.getD_eq_getElem?_getD, this]
    rw [e2, e]; rfl
  refine ⟨h0, ?_, ?_⟩
  · have h1 : l.Perm l2 := (hp.trans (swpL_perm l (by omega) (by omega))).symm
    have h2 : l2 = l2.take n ++ [fn l2 n] := by
      have hx : fn l2 n = l2[n] := getD_in l2 (by omega)
      rw [hx]
      have := List.take_succ_eq_append_getElem (l := l2) (i := n) (by omega)
      rw [← this, List.take_of_length_le (by omega)]
    rw [h2, h0] at h1
    exact h1.trans (List.perm_append_singleton _ _)
  · rw [List.length_take, hl2, Nat.min_eq_left (by omega)]
    exact is_cut hi fun k hk => by
      unfold fn
      rw [List.getD_eq_getElem?_getD, List.getElem?_take_of_lt hk, ← List.getD_eq_getElem?_getD]
end Go.Proofs.YtgjepahhbecljaaDoor.Heap

namespace Go.Proofs.YtgjepahhbecljaaDoor
open Go Go.RowKit

/-- A turn's cells. -/
def turnC (x : Heap.T) : List Value := .int .i64 x.1 :: u8s x.2
def turnsC (l : List Heap.T) : List Value := l.flatMap turnC
/-- Hashes have 32 bytes. -/
def WfT (l : List Heap.T) : Prop := ∀ x ∈ l, x.2.length = 32 ∧ Bytes x.2
theorem turnC_len {x : Heap.T} (h : x.2.length = 32) : (turnC x).length = 33 := by unfold turnC; rw [List.length_cons, u8s_len, h]
theorem turnsC_len : ∀ {l : List Heap.T}, WfT l → (turnsC l).length = l.length * 33
  | [], _ => rfl
  | x :: l, h => by
    have ih := turnsC_len (l := l) fun y hy => h y (List.mem_cons_of_mem _ hy)
    show (turnC x ++ turnsC l).length = _
    rw [List.length_append, turnC_len (h x List.mem_cons_self).1, ih, List.length_cons]
    omega
theorem turnsC_get : ∀ {l : List Heap.T}, WfT l → ∀ i (hi : i < l.length) j, j < 33 → (turnsC l)[i * 33 + j]? = (turnC l[i])[j]?
  | x :: l, h, 0, _, j, hj => by
    show (turnC x ++ turnsC l)[0 * 33 + j]? = (turnC x)[j]?
    rw [Nat.zero_mul, Nat.zero_add, List.getElem?_append_left (by rw [turnC_len (h x List.mem_cons_self).1]; exact hj)]
  | x :: l, h, i + 1, hi, j, hj => by
    have hl : i < l.length := by simpa using hi
    have ih := turnsC_get (l := l) (fun y hy => h y (List.mem_cons_of_mem _ hy)) i hl j hj
    show (turnC x ++ turnsC l)[(i + 1) * 33 + j]? = (turnC l[i])[j]?
    rw [List.getElem?_append_right (by rw [turnC_len (h x List.mem_cons_self).1]; omega), turnC_len (h x List.mem_cons_self).1, show (i + 1) * 33 + j - 33 = i * 33 + j by omega, ih]
theorem WfT.set {l : List Heap.T} (h : WfT l) (i : Nat) {x : Heap.T} (hx : x.2.length = 32 ∧ Bytes x.2) : WfT (l.set i x) := fun y hy => by
  rcases List.mem_or_eq_of_mem_set hy with h1 | rfl
  · exact h y h1
  · exact hx
/-- One turn written into the row. -/
theorem turnsC_set {l : List Heap.T} (h : WfT l) (i : Nat) (hi : i < l.length) {x : Heap.T} (hx : x.2.length = 32 ∧ Bytes x.2) : lset (turnsC l) (i * 33) (turnC x) = turnsC (l.set i x) := by
  have hl := turnsC_len h
  have hl2 := turnsC_len (h.set i hx)
  rw [List.length_set] at hl2
  refine List.ext_getElem? fun k => ?_
  rw [lset_get _ _ _ _ (by rw [turnC_len hx.1, hl]; omega), turnC_len hx.1]
  by_cases hk : k < l.length * 33
  · obtain ⟨q, j, hj, rfl⟩ : ∃ q j, j < 33 ∧ k = q * 33 + j := ⟨k / 33, k % 33, by omega, by omega⟩
    have hq : q < l.length := by omega
    rw [turnsC_get (h.set i hx) q (by rw [List.length_set]; exact hq) j hj]
    by_cases e : q = i
    · subst e
      rw [if_pos (by omega), Nat.add_sub_cancel_left, List.getElem_set_self]
    · rw [if_neg (by omega), turnsC_get h q hq j hj, List.getElem_set_ne (Ne.symm e)]
  · rw [if_neg (by omega), List.getElem?_eq_none (by omega), List.getElem?_eq_none (by omega)]
/-- A row of turns of the call's own. -/
def RowT (w : World) (base : Nat) (v : Value) (l : List Heap.T) : Prop := w.ownsRow base 84 33 v l.length (turnsC l) ∧ WfT l
theorem RowT.nil_ (w : World) (base : Nat) : RowT w base (.slice none 0 0) [] := ⟨World.ownsRow_nil _ _ _ _, fun x hx => by cases hx⟩
theorem RowT.keptB {w w' : World} {base : Nat} {v : Value} {l : List Heap.T} (h : RowT w base v l) (hb : Below w.heap.size w w') : RowT w' base v l := ⟨own_keptB h.1 hb, h.2⟩
theorem RowT.shape {w : World} {base : Nat} {v : Value} {l : List Heap.T} (h : RowT w base v l) : ∃ A c, v = .slice A l.length c := own_shape h.1
/-- Where a turn lies. -/
theorem RowT.open_ {w : World} {base : Nat} {v : Value} {l : List Heap.T} (h : RowT w base v l) (h0 : 0 < l.length) :
    ∃ g cap, v = .slice (some ⟨g, 0, none⟩) l.length cap ∧ base ≤ g ∧ g < w.heap.size ∧ l.length ≤ cap ∧ cap ≤ maxLen ∧ ∀ i (hi : i < l.length) j u, (turnC l[i])[j]? = some u → w.cell? ⟨g, i * 33 + j, none⟩ = some u := by
  obtain ⟨⟨hl, hv⟩, hw⟩ := h
  rcases hv with ⟨rfl, h1⟩ | ⟨g, cap, cur, rfl, hbg, hB, hn, hm, hs, ht⟩
  · omega
  · refine ⟨g, cap, rfl, hbg, ?_, hn, hm, fun i hi j u hu => ?_⟩
    · have := (Array.getElem?_eq_some_iff.1 hB).1; exact this
    · have hj : j < 33 := by
        have := (List.getElem?_eq_some_iff.1 hu).1
        rwa [turnC_len (hw _ (List.getElem_mem hi)).1] at this
      have hg := turnsC_get hw i hi j hj
      rw [hu, ← ht, List.getElem?_take_of_lt (by omega)] at hg
      simp only [World.cell?, hB]
      simpa using hg
end Go.Proofs.YtgjepahhbecljaaDoor

namespace Go.Proofs.YtgjepahhbecljaaDoor
open Go Go.RowKit

def toU8 (xs : List Int) : List UInt8 := xs.map fun x => x.toNat.toUInt8
theorem run_loadBytes {P : Program} (w : World) (b : Nat) : ∀ (xs : List Int) (o : Nat) (acc : ByteArray), (∀ j x, xs[j]? = some x → w.cell? ⟨b, o + j, none⟩ = some (.int .u8 x)) →
    (Extern.Bytes.loadBytes ⟨b, o, none⟩ xs.length acc).run P w = .ok ⟨(acc.data.toList ++ toU8 xs).toArray⟩ w
  | [], o, acc, _ => by
    simp [Extern.Bytes.loadBytes, toU8]
  | x :: xs, o, acc, h => by
    have h0 : w.cell? ⟨b, o, none⟩ = some (.int .u8 x) := by simpa using h 0 x rfl
    have ih := run_loadBytes (P := P) w b xs (o + 1) (acc.push x.toNat.toUInt8) (fun j y hy => by
      have := h (j + 1) y (by simpa using hy)
      rwa [show o + (j + 1) = o + 1 + j by omega] at this)
    rw [List.length_cons, Extern.Bytes.loadBytes]
    have hl : (load ⟨b, o, none⟩).run P w = .ok (.int .u8 x) w := by simp [h0]
    rw [Sem.run_bind, hl, Result.andThen_ok]
    show (Extern.Bytes.loadBytes ((⟨b, o, none⟩ : Addr).add 1) xs.length (acc.push x.toNat.toUInt8)).run P w = _
    rw [Addr.add_lit, ih]
    simp [toU8]
theorem run_bytesOf {P : Program} (w : World) (B : Nat) (v : Value) (xs : List Int) (h : Bs w B v xs) : (Extern.Bytes.bytesOf v).run P w = .ok ⟨(toU8 xs).toArray⟩ w := by
  obtain ⟨A, c, rfl, h1, h2, h3⟩ := h.open_
  by_cases hp : 0 < xs.length
  · obtain ⟨b, o, rfl, hb, hc⟩ := h3 hp
    have := run_loadBytes (P := P) w b xs o .empty (fun j x hj => hc j x (List.getElem?_eq_some_iff.1 hj).1 (by rw [List.getD_eq_getElem?_getD, hj]; rfl))
    rw [Extern.Bytes.bytesOf, this]
    rfl
  · obtain rfl : xs = [] := List.eq_nil_of_length_eq_zero (by omega)
    rcases A with _ | ad
    · rfl
    · rfl
theorem cmp_toU8 : ∀ (xs ys : List Int), (∀ x ∈ xs, 0 ≤ x ∧ x < 256) → (∀ y ∈ ys, 0 ≤ y ∧ y < 256) → Lib.compareBytes (toU8 xs) (toU8 ys) = Heap.cmpL xs ys
  | [], [], _, _ => rfl
  | [], _ :: _, _, _ => rfl
  | _ :: _, [], _, _ => rfl
  | x :: xs, y :: ys, hx, hy => by
    have h1 := hx x List.mem_cons_self
    have h2 := hy y List.mem_cons_self
    have e1 : x.toNat.toUInt8.toNat = x.toNat := by simp [UInt8.toNat_ofNat]; omega
    have e2 : y.toNat.toUInt8.toNat = y.toNat := by simp [UInt8.toNat_ofNat]; omega
    have l1 : x.toNat.toUInt8 < y.toNat.toUInt8 ↔ x < y := by rw [UInt8.lt_iff_toNat_lt, e1, e2]; omega
    have l2 : y.toNat.toUInt8 < x.toNat.toUInt8 ↔ y < x := by rw [UInt8.lt_iff_toNat_lt, e1, e2]; omega
    have ih := cmp_toU8 xs ys (fun z hz => hx z (List.mem_cons_of_mem _ hz)) (fun z hz => hy z (List.mem_cons_of_mem _ hz))
    show Lib.compareBytes (x.toNat.toUInt8 :: toU8 xs) (y.toNat.toUInt8 :: toU8 ys) = _
    unfold Lib.compareBytes Heap.cmpL
    simp only [l1, l2, ih]
theorem run_compare {P : Program} (w : World) (B : Nat) (va vb : Value) (xs ys : List Int) (ha : Bs w B va xs) (hb : Bs w B vb ys) (hx : Bytes xs) (hy : Bytes ys) :
    (Extern.BytealgCompare.compare #[va, vb]).run P w = .ok (.int .i64 (Heap.cmpL xs ys)) w := by
  change Sem.run P (do pure (goInt (Extern.BytealgCompare.cmp (← Extern.Bytes.bytesOf va) (← Extern.Bytes.bytesOf vb)))) w = _
  simp only [Sem.run_bind, run_bytesOf w B va xs ha, run_bytesOf w B vb ys hb, Sem.run_pure, Result.andThen]
  rw [Lib.cmp_eq]
  show Result.ok (Value.int .i64 (Lib.compareBytes (toU8 xs) (toU8 ys))) w = _
  rw [cmp_toU8 xs ys hx hy]
set_option maxRecDepth 100000 in
theorem Compare_any (va vb : Value) (xs ys : List Int) (w : World) (B : Nat) (ha : Bs w B va xs) (hb : Bs w B vb ys) (hx : Bytes xs) (hy : Bytes ys) :
    Calls Tryd.prog 135 #[va, vb] w fun e w' => e = .returned (.int .i64 (Heap.cmpL xs ys)) ∧ w = w' := by
  have HR := hide (run_compare (P := Tryd.prog) w B va vb xs ys ha hb hx hy)
  clear ha hb hx hy
  go_enter Tryd.func135, Tryd.ntmps135
  go_wp2_with fail
  rw [run_callFunc_extern Tryd.func136 (by kernel_rfl) (by kernel_rfl) (by kernel_rfl) (e := Extern.BytealgCompare.compare) (by kernel_rfl), HR.out]
  simp only [Result.andThen]
  rw [Oper.upon_value]
  go_wp2_with fail
  go_ret
  exact ⟨rfl, rfl⟩
end Go.Proofs.YtgjepahhbecljaaDoor

namespace Go.Proofs.YtgjepahhbecljaaDoor
open Go Go.RowKit
set_option linter.unusedVariables false
set_option linter.unusedSimpArgs false
section
variable {o : Oper} {a : Act} {w : World}
theorem exec_index_turn (x y : Operand) (ho : o.op = .indexAddr 81 x y) (g n c : Nat) (k : Int) (j : Nat) (hx : a.eval x = .slice (some ⟨g, 0, none⟩) n c) (hy : a.eval y = .int .i64 k) (hk : k = (j : Int)) (hj : j < n) : (execOp a.eval o).run Tryd.prog w = .ok (.value (.pointer (some ⟨g, j * 33, none⟩))) w := by
  subst hk
  unfold execOp
  simp only [ho, hx, hy]
  have h0 : (0 : Int) ≤ (j : Int) := by omega
  have h1 : (j : Int) < (n : Int) := by omega
  go_simp
theorem exec_field_turn (x : Operand) (k off : Nat) (ho : o.op = .fieldAddr 84 x k) (g b : Nat) (hx : a.eval x = .pointer (some ⟨g, b, none⟩)) (hk : [0, 1][k]? = some off) : (execOp a.eval o).run Tryd.prog w = .ok (.value (.pointer (some ⟨g, b + off, none⟩))) w := by
  unfold execOp
  simp only [ho, hx]
  have h7 : k < 2 := by have := (List.getElem?_eq_some_iff.1 hk).1; simpa using this
  obtain rfl | rfl : k = 0 ∨ k = 1 := by omega
  all_goals (simp at hk; subst hk; go_simp)
theorem exec_lss_int (x y : Operand) (t' : TypeId) (ho : o.op = .binOp .lss 3 x y t') (p q : Int) (hx : a.eval x = .int .i64 p) (hy : a.eval y = .int .i64 q) : (execOp a.eval o).run Tryd.prog w = .ok (.value (.bool (decide (p < q)))) w := by
  unfold execOp
  simp only [ho, hx, hy]
  go_simp
end
set_option maxRecDepth 100000
set_option maxHeartbeats 4000000
theorem turns_len (v : Value) (l : List Heap.T) (w : World) (base : Nat) (h : RowT w base v l) : Calls Tryd.prog 75 #[v] w fun e w' => e = .returned (.int .i64 (l.length : Int)) ∧ w = w' := by
  obtain ⟨A, c, rfl⟩ := h.shape
  clear h
  obtain ⟨n, HN⟩ : ∃ n : Nat, Hid (l.length = n) := ⟨_, hide rfl⟩
  rw [HN.out]
  go_enter Tryd.func75, Tryd.ntmps75
  go_wp2_with fail
  go_ret
  exact ⟨rfl, rfl⟩
theorem turns_less (v : Value) (l : List Heap.T) (w : World) (base i k : Nat) (h : RowT w base v l) (hi : i < l.length) (hk : k < l.length) :
    Calls Tryd.prog 131 #[v, .int .i64 (i : Int), .int .i64 (k : Int)] w fun e w' => e = .returned (.bool (decide (Heap.tlt (Heap.fn l i) (Heap.fn l k)))) ∧ w'.heap = w.heap ∧ Below w.heap.size w w' := by
  obtain ⟨g, c, rfl, hbg, hgw, hnc, hcm, hcell⟩ := h.open_ (by omega)
  have hw := h.2
  have e1 : Heap.fn l i = l[i] := Heap.getD_in l hi
  have e2 : Heap.fn l k = l[k] := Heap.getD_in l hk
  rw [e1, e2]
  have hi32 := hw _ (List.getElem_mem hi)
  have hk32 := hw _ (List.getElem_mem hk)
  have ci : ∀ j u, (turnC l[i])[j]? = some u → w.cell? ⟨g, i * 33 + j, none⟩ = some u := hcell i hi
  have ck : ∀ j u, (turnC l[k])[j]? = some u → w.cell? ⟨g, k * 33 + j, none⟩ = some u := hcell k hk
  obtain ⟨n, HN⟩ : ∃ n : Nat, Hid (l.length = n) := ⟨_, hide rfl⟩
  rw [HN.out] at hi hk hnc ⊢
  have hm : ∀ w' : World, w'.heap = w.heap → ∀ p : Addr, p.spot = none → w'.cell? p = w.cell? p := fun w' hw' p hp => by
    unfold World.cell?
    rw [hw', hp]
  obtain ⟨x, HX⟩ : ∃ x, Hid (l[i] = x) := ⟨_, hide rfl⟩
  obtain ⟨y, HY⟩ : ∃ x, Hid (l[k] = x) := ⟨_, hide rfl⟩
  rw [HX.out] at hi32 ci ⊢
  rw [HY.out] at hk32 ck ⊢
  obtain ⟨si, X⟩ := x
  obtain ⟨sk, Y⟩ := y
  have HCI := hide (fun (w' : World) (hS : w'.heap = w.heap ∧ Below w.heap.size w w') => show w'.cell? ⟨g, i * 33, none⟩ = some (.int .i64 si) from (hm w' hS.1 _ rfl).trans (ci 0 _ rfl))
  have HCK := hide (fun (w' : World) (hS : w'.heap = w.heap ∧ Below w.heap.size w w') => show w'.cell? ⟨g, k * 33, none⟩ = some (.int .i64 sk) from (hm w' hS.1 _ rfl).trans (ck 0 _ rfl))
  have hrow : ∀ (w' : World) (hS : w'.heap = w.heap) (b : Nat) (z : List Int) (hz : z.length = 32) (hc : ∀ j u, (turnC (0, z))[j + 1]? = some u → w.cell? ⟨g, b * 33 + (j + 1), none⟩ = some u), Bs w' w.heap.size (.slice (some ⟨g, b * 33 + 1, none⟩) 32 32) z := fun w' hS b z hz hc => by
    unfold Bs
    rw [hz]
    exact ⟨_, 32, rfl, Nat.le_refl _, by decide, by rw [u8s_len, hz], fun _ => ⟨g, b * 33 + 1, rfl, hgw, fun j u hu => by
      rw [hm w' hS _ rfl, show b * 33 + 1 + j = b * 33 + (j + 1) by omega]
      exact hc j u (by simpa [turnC] using hu)⟩⟩
  have HCMP0 := fun (w' : World) (hS : w'.heap = w.heap ∧ Below w.heap.size w w') => Compare_any (.slice (some ⟨g, i * 33 + 1, none⟩) 32 32) (.slice (some ⟨g, k * 33 + 1, none⟩) 32 32) X Y w' w.heap.size (hrow w' hS.1 i X hi32.1 (fun j u hu => ci (j + 1) u (by simpa [turnC] using hu))) (hrow w' hS.1 k Y hk32.1 (fun j u hu => ck (j + 1) u (by simpa [turnC] using hu))) hi32.2 hk32.2
  clear hrow hm ci ck hcell h hw hi32 hk32 e1 e2
  rcases Heap.cmpL_range X Y with hc | hc | hc
  · rw [hc] at HCMP0
    have HCMP := hide HCMP0
    have HRS := hide (show decide (Heap.tlt (si, X) (sk, Y)) = true from decide_eq_true (.inl hc))
    rw [HRS.out]
    clear HCMP0 hc
    go_enter Tryd.func131, Tryd.ntmps131
    go_upto_region 1 with fail
    refine wp_region_held_drew (S := fun w' => w'.heap = w.heap ∧ Below w.heap.size w w') (by kernel_rfl) ⟨rfl, (Below.refl _ _).drew⟩ (fun hHeld => ?_)
    refine take_d 8 (i := 0) (v := .slice (some ⟨g, 0, none⟩) n c) rfl (by kernel_rfl) (by kernel_rfl) (by kernel_rfl) (by kernel_rfl) (fun _ _ _ h => h) (Or.inl ⟨by kernel_rfl, fun w' hS => exec_move _ rfl _ rfl⟩) hHeld ?_
    try simp only [Act.put, List.setIfInBounds_toArray, List.set_cons_zero, List.set_cons_succ]
    refine take_d 9 (i := 1) (v := .int .i64 (i : Int)) rfl (by kernel_rfl) (by kernel_rfl) (by kernel_rfl) (by kernel_rfl) (fun _ _ _ h => h) (Or.inl ⟨by kernel_rfl, fun w' hS => exec_move _ rfl _ rfl⟩) hHeld ?_
    try simp only [Act.put, List.setIfInBounds_toArray, List.set_cons_zero, List.set_cons_succ]
    refine take_d 10 (i := 2) (v := .pointer (some ⟨g, i * 33, none⟩)) rfl (by kernel_rfl) (by kernel_rfl) (by kernel_rfl) (by kernel_rfl) (fun _ _ _ h => h) (Or.inl ⟨by kernel_rfl, fun w' hS => exec_index_turn _ _ rfl g n c (i : Int) i rfl rfl rfl (by omega)⟩) hHeld ?_
    try simp only [Act.put, List.setIfInBounds_toArray, List.set_cons_zero, List.set_cons_succ]
    refine take_d 11 (i := 3) (v := .pointer (some ⟨g, i * 33 + 1, none⟩)) rfl (by kernel_rfl) (by kernel_rfl) (by kernel_rfl) (by kernel_rfl) (fun _ _ _ h => h) (Or.inl ⟨by kernel_rfl, fun w' hS => exec_field_turn _ 1 1 rfl g (i * 33) rfl rfl⟩) hHeld ?_
    try simp only [Act.put, List.setIfInBounds_toArray, List.set_cons_zero, List.set_cons_succ]
    refine take_d 12 (i := 4) (v := .slice (some ⟨g, i * 33 + 1, none⟩) 32 32) rfl (by kernel_rfl) (by kernel_rfl) (by kernel_rfl) (by kernel_rfl) (fun _ _ _ h => h) (Or.inl ⟨by kernel_rfl, fun w' hS => exec_slice_hash _ rfl g (i * 33 + 1) rfl⟩) hHeld ?_
    try simp only [Act.put, List.setIfInBounds_toArray, List.set_cons_zero, List.set_cons_succ]
    refine take_d 13 (i := 5) (v := .slice (some ⟨g, 0, none⟩) n c) rfl (by kernel_rfl) (by kernel_rfl) (by kernel_rfl) (by kernel_rfl) (fun _ _ _ h => h) (Or.inl ⟨by kernel_rfl, fun w' hS => exec_move _ rfl _ rfl⟩) hHeld ?_
    try simp only [Act.put, List.setIfInBounds_toArray, List.set_cons_zero, List.set_cons_succ]
    refine take_d 14 (i := 6) (v := .int .i64 (k : Int)) rfl (by kernel_rfl) (by kernel_rfl) (by kernel_rfl) (by kernel_rfl) (fun _ _ _ h => h) (Or.inl ⟨by kernel_rfl, fun w' hS => exec_move _ rfl _ rfl⟩) hHeld ?_
    try simp only [Act.put, List.setIfInBounds_toArray, List.set_cons_zero, List.set_cons_succ]
    refine take_d 15 (i := 7) (v := .pointer (some ⟨g, k * 33, none⟩)) rfl (by kernel_rfl) (by kernel_rfl) (by kernel_rfl) (by kernel_rfl) (fun _ _ _ h => h) (Or.inl ⟨by kernel_rfl, fun w' hS => exec_index_turn _ _ rfl g n c (k : Int) k rfl rfl rfl (by omega)⟩) hHeld ?_
    try simp only [Act.put, List.setIfInBounds_toArray, List.set_cons_zero, List.set_cons_succ]
    refine take_d 16 (i := 8) (v := .pointer (some ⟨g, k * 33 + 1, none⟩)) rfl (by kernel_rfl) (by kernel_rfl) (by kernel_rfl) (by kernel_rfl) (fun _ _ _ h => h) (Or.inl ⟨by kernel_rfl, fun w' hS => exec_field_turn _ 1 1 rfl g (k * 33) rfl rfl⟩) hHeld ?_
    try simp only [Act.put, List.setIfInBounds_toArray, List.set_cons_zero, List.set_cons_succ]
    refine take_d 17 (i := 9) (v := .slice (some ⟨g, k * 33 + 1, none⟩) 32 32) rfl (by kernel_rfl) (by kernel_rfl) (by kernel_rfl) (by kernel_rfl) (fun _ _ _ h => h) (Or.inl ⟨by kernel_rfl, fun w' hS => exec_slice_hash _ rfl g (k * 33 + 1) rfl⟩) hHeld ?_
    try simp only [Act.put, List.setIfInBounds_toArray, List.set_cons_zero, List.set_cons_succ]
    refine wpAnyH_ready (rs := [10]) (by kernel_rfl) (by simp) (AllReadyH.cons rfl (fun K hK => ?_) AllReadyH.nil)
    rw [if_pos (by kernel_rfl)]
    try go_simp
    refine (HCMP.out _ hHeld).mono ?_
    rintro e w' ⟨rfl, rfl⟩
    refine hK.out _ _ hHeld (fun hHeld => ?_)
    clear hK K
    try simp only [Act.put, List.setIfInBounds_toArray, List.set_cons_zero, List.set_cons_succ]
    refine take_d 7 (i := 11) (v := .int .i64 (-1)) rfl (by kernel_rfl) (by kernel_rfl) (by kernel_rfl) (by kernel_rfl) (fun _ _ _ h => h) (Or.inl ⟨by kernel_rfl, fun w' hS => exec_assign _ rfl _ rfl⟩) hHeld ?_
    try simp only [Act.put, List.setIfInBounds_toArray, List.set_cons_zero, List.set_cons_succ]
    refine wpAnyH_done (by kernel_rfl) ?_ _
    have HH1 := hide hHeld.1
    have HB1 := hide hHeld.2
    clear hHeld
    go_wp2_with fail
    go_ret
    exact ⟨rfl, HH1.out, HB1.out⟩
  · rw [hc] at HCMP0
    have HCMP := hide HCMP0
    have HRS := hide (show decide (Heap.tlt (si, X) (sk, Y)) = decide (si < sk) from decide_eq_decide.2 ⟨fun h => by rcases h with h | h; · rw [show Heap.cmpL (si, X).2 (sk, Y).2 = Heap.cmpL X Y from rfl, hc] at h; cases h
                                                                                                                     · exact h.2, fun h => .inr ⟨hc, h⟩⟩)
    rw [HRS.out]
    clear HCMP0 hc
    go_enter Tryd.func131, Tryd.ntmps131
    go_upto_region 1 with fail
    refine wp_region_held_drew (S := fun w' => w'.heap = w.heap ∧ Below w.heap.size w w') (by kernel_rfl) ⟨rfl, (Below.refl _ _).drew⟩ (fun hHeld => ?_)
    refine take_d 8 (i := 0) (v := .slice (some ⟨g, 0, none⟩) n c) rfl (by kernel_rfl) (by kernel_rfl) (by kernel_rfl) (by kernel_rfl) (fun _ _ _ h => h) (Or.inl ⟨by kernel_rfl, fun w' hS => exec_move _ rfl _ rfl⟩) hHeld ?_
    try simp only [Act.put, List.setIfInBounds_toArray, List.set_cons_zero, List.set_cons_succ]
    refine take_d 9 (i := 1) (v := .int .i64 (i : Int)) rfl (by kernel_rfl) (by kernel_rfl) (by kernel_rfl) (by kernel_rfl) (fun _ _ _ h => h) (Or.inl ⟨by kernel_rfl, fun w' hS => exec_move _ rfl _ rfl⟩) hHeld ?_
    try simp only [Act.put, List.setIfInBounds_toArray, List.set_cons_zero, List.set_cons_succ]
    refine take_d 10 (i := 2) (v := .pointer (some ⟨g, i * 33, none⟩)) rfl (by kernel_rfl) (by kernel_rfl) (by kernel_rfl) (by kernel_rfl) (fun _ _ _ h => h) (Or.inl ⟨by kernel_rfl, fun w' hS => exec_index_turn _ _ rfl g n c (i : Int) i rfl rfl rfl (by omega)⟩) hHeld ?_
    try simp only [Act.put, List.setIfInBounds_toArray, List.set_cons_zero, List.set_cons_succ]
    refine take_d 11 (i := 3) (v := .pointer (some ⟨g, i * 33 + 1, none⟩)) rfl (by kernel_rfl) (by kernel_rfl) (by kernel_rfl) (by kernel_rfl) (fun _ _ _ h => h) (Or.inl ⟨by kernel_rfl, fun w' hS => exec_field_turn _ 1 1 rfl g (i * 33) rfl rfl⟩) hHeld ?_
    try simp only [Act.put, List.setIfInBounds_toArray, List.set_cons_zero, List.set_cons_succ]
    refine take_d 12 (i := 4) (v := .slice (some ⟨g, i * 33 + 1, none⟩) 32 32) rfl (by kernel_rfl) (by kernel_rfl) (by kernel_rfl) (by kernel_rfl) (fun _ _ _ h => h) (Or.inl ⟨by kernel_rfl, fun w' hS => exec_slice_hash _ rfl g (i * 33 + 1) rfl⟩) hHeld ?_
    try simp only [Act.put, List.setIfInBounds_toArray, List.set_cons_zero, List.set_cons_succ]
    refine take_d 13 (i := 5) (v := .slice (some ⟨g, 0, none⟩) n c) rfl (by kernel_rfl) (by kernel_rfl) (by kernel_rfl) (by kernel_rfl) (fun _ _ _ h => h) (Or.inl ⟨by kernel_rfl, fun w' hS => exec_move _ rfl _ rfl⟩) hHeld ?_
    try simp only [Act.put, List.setIfInBounds_toArray, List.set_cons_zero, List.set_cons_succ]
    refine take_d 14 (i := 6) (v := .int .i64 (k : Int)) rfl (by kernel_rfl) (by kernel_rfl) (by kernel_rfl) (by kernel_rfl) (fun _ _ _ h => h) (Or.inl ⟨by kernel_rfl, fun w' hS => exec_move _ rfl _ rfl⟩) hHeld ?_
    try simp only [Act.put, List.setIfInBounds_toArray, List.set_cons_zero, List.set_cons_succ]
    refine take_d 15 (i := 7) (v := .pointer (some ⟨g, k * 33, none⟩)) rfl (by kernel_rfl) (by kernel_rfl) (by kernel_rfl) (by kernel_rfl) (fun _ _ _ h => h) (Or.inl ⟨by kernel_rfl, fun w' hS => exec_index_turn _ _ rfl g n c (k : Int) k rfl rfl rfl (by omega)⟩) hHeld ?_
    try simp only [Act.put, List.setIfInBounds_toArray, List.set_cons_zero, List.set_cons_succ]
    refine take_d 16 (i := 8) (v := .pointer (some ⟨g, k * 33 + 1, none⟩)) rfl (by kernel_rfl) (by kernel_rfl) (by kernel_rfl) (by kernel_rfl) (fun _ _ _ h => h) (Or.inl ⟨by kernel_rfl, fun w' hS => exec_field_turn _ 1 1 rfl g (k * 33) rfl rfl⟩) hHeld ?_
    try simp only [Act.put, List.setIfInBounds_toArray, List.set_cons_zero, List.set_cons_succ]
    refine take_d 17 (i := 9) (v := .slice (some ⟨g, k * 33 + 1, none⟩) 32 32) rfl (by kernel_rfl) (by kernel_rfl) (by kernel_rfl) (by kernel_rfl) (fun _ _ _ h => h) (Or.inl ⟨by kernel_rfl, fun w' hS => exec_slice_hash _ rfl g (k * 33 + 1) rfl⟩) hHeld ?_
    try simp only [Act.put, List.setIfInBounds_toArray, List.set_cons_zero, List.set_cons_succ]
    refine wpAnyH_ready (rs := [10]) (by kernel_rfl) (by simp) (AllReadyH.cons rfl (fun K hK => ?_) AllReadyH.nil)
    rw [if_pos (by kernel_rfl)]
    try go_simp
    refine (HCMP.out _ hHeld).mono ?_
    rintro e w' ⟨rfl, rfl⟩
    refine hK.out _ _ hHeld (fun hHeld => ?_)
    clear hK K
    try simp only [Act.put, List.setIfInBounds_toArray, List.set_cons_zero, List.set_cons_succ]
    refine take_d 7 (i := 11) (v := .int .i64 0) rfl (by kernel_rfl) (by kernel_rfl) (by kernel_rfl) (by kernel_rfl) (fun _ _ _ h => h) (Or.inl ⟨by kernel_rfl, fun w' hS => exec_assign _ rfl _ rfl⟩) hHeld ?_
    try simp only [Act.put, List.setIfInBounds_toArray, List.set_cons_zero, List.set_cons_succ]
    refine wpAnyH_done (by kernel_rfl) ?_ _
    have HH1 := hide hHeld.1
    have HB1 := hide hHeld.2
    clear hHeld
    go_upto_region 4 with fail
    refine wp_region_held_drew (S := fun w' => w'.heap = w.heap ∧ Below w.heap.size w w') (by kernel_rfl) ⟨HH1.out, HB1.out.drew⟩ (fun hHeld => ?_)
    refine take_d 23 (i := 0) (v := .slice (some ⟨g, 0, none⟩) n c) rfl (by kernel_rfl) (by kernel_rfl) (by kernel_rfl) (by kernel_rfl) (fun _ _ _ h => h) (Or.inl ⟨by kernel_rfl, fun w' hS => exec_move _ rfl _ rfl⟩) hHeld ?_
    try simp only [Act.put, List.setIfInBounds_toArray, List.set_cons_zero, List.set_cons_succ]
    refine take_d 24 (i := 1) (v := .int .i64 (i : Int)) rfl (by kernel_rfl) (by kernel_rfl) (by kernel_rfl) (by kernel_rfl) (fun _ _ _ h => h) (Or.inl ⟨by kernel_rfl, fun w' hS => exec_move _ rfl _ rfl⟩) hHeld ?_
    try simp only [Act.put, List.setIfInBounds_toArray, List.set_cons_zero, List.set_cons_succ]
    refine take_d 25 (i := 2) (v := .pointer (some ⟨g, i * 33, none⟩)) rfl (by kernel_rfl) (by kernel_rfl) (by kernel_rfl) (by kernel_rfl) (fun _ _ _ h => h) (Or.inl ⟨by kernel_rfl, fun w' hS => exec_index_turn _ _ rfl g n c (i : Int) i rfl rfl rfl (by omega)⟩) hHeld ?_
    try simp only [Act.put, List.setIfInBounds_toArray, List.set_cons_zero, List.set_cons_succ]
    refine take_d 26 (i := 3) (v := .pointer (some ⟨g, i * 33, none⟩)) rfl (by kernel_rfl) (by kernel_rfl) (by kernel_rfl) (by kernel_rfl) (fun _ _ _ h => h) (Or.inl ⟨by kernel_rfl, fun w' hS => exec_field_turn _ 0 0 rfl g (i * 33) rfl rfl⟩) hHeld ?_
    try simp only [Act.put, List.setIfInBounds_toArray, List.set_cons_zero, List.set_cons_succ]
    refine take_d 27 (i := 4) (v := .int .i64 si) rfl (by kernel_rfl) (by kernel_rfl) (by kernel_rfl) (by kernel_rfl) (fun _ _ _ h => h) (Or.inl ⟨by kernel_rfl, fun w' hS => exec_load_one _ _ rfl g (i * 33) rfl _ Tryd.underlying3 rfl _ (HCI.out _ hS)⟩) hHeld ?_
    try simp only [Act.put, List.setIfInBounds_toArray, List.set_cons_zero, List.set_cons_succ]
    refine take_d 28 (i := 5) (v := .slice (some ⟨g, 0, none⟩) n c) rfl (by kernel_rfl) (by kernel_rfl) (by kernel_rfl) (by kernel_rfl) (fun _ _ _ h => h) (Or.inl ⟨by kernel_rfl, fun w' hS => exec_move _ rfl _ rfl⟩) hHeld ?_
    try simp only [Act.put, List.setIfInBounds_toArray, List.set_cons_zero, List.set_cons_succ]
    refine take_d 29 (i := 6) (v := .int .i64 (k : Int)) rfl (by kernel_rfl) (by kernel_rfl) (by kernel_rfl) (by kernel_rfl) (fun _ _ _ h => h) (Or.inl ⟨by kernel_rfl, fun w' hS => exec_move _ rfl _ rfl⟩) hHeld ?_
    try simp only [Act.put, List.setIfInBounds_toArray, List.set_cons_zero, List.set_cons_succ]
    refine take_d 30 (i := 7) (v := .pointer (some ⟨g, k * 33, none⟩)) rfl (by kernel_rfl) (by kernel_rfl) (by kernel_rfl) (by kernel_rfl) (fun _ _ _ h => h) (Or.inl ⟨by kernel_rfl, fun w' hS => exec_index_turn _ _ rfl g n c (k : Int) k rfl rfl rfl (by omega)⟩) hHeld ?_
    try simp only [Act.put, List.setIfInBounds_toArray, List.set_cons_zero, List.set_cons_succ]
    refine take_d 31 (i := 8) (v := .pointer (some ⟨g, k * 33, none⟩)) rfl (by kernel_rfl) (by kernel_rfl) (by kernel_rfl) (by kernel_rfl) (fun _ _ _ h => h) (Or.inl ⟨by kernel_rfl, fun w' hS => exec_field_turn _ 0 0 rfl g (k * 33) rfl rfl⟩) hHeld ?_
    try simp only [Act.put, List.setIfInBounds_toArray, List.set_cons_zero, List.set_cons_succ]
    refine take_d 32 (i := 9) (v := .int .i64 sk) rfl (by kernel_rfl) (by kernel_rfl) (by kernel_rfl) (by kernel_rfl) (fun _ _ _ h => h) (Or.inl ⟨by kernel_rfl, fun w' hS => exec_load_one _ _ rfl g (k * 33) rfl _ Tryd.underlying3 rfl _ (HCK.out _ hS)⟩) hHeld ?_
    try simp only [Act.put, List.setIfInBounds_toArray, List.set_cons_zero, List.set_cons_succ]
    refine take_d 33 (i := 10) (v := .bool (decide (si < sk))) rfl (by kernel_rfl) (by kernel_rfl) (by kernel_rfl) (by kernel_rfl) (fun _ _ _ h => h) (Or.inl ⟨by kernel_rfl, fun w' hS => exec_lss_int _ _ _ rfl si sk rfl rfl⟩) hHeld ?_
    try simp only [Act.put, List.setIfInBounds_toArray, List.set_cons_zero, List.set_cons_succ]
    refine take_d 6 (i := 11) (v := .bool (decide (si < sk))) rfl (by kernel_rfl) (by kernel_rfl) (by kernel_rfl) (by kernel_rfl) (fun _ _ _ h => h) (Or.inl ⟨by kernel_rfl, fun w' hS => exec_assign _ rfl _ rfl⟩) hHeld ?_
    try simp only [Act.put, List.setIfInBounds_toArray, List.set_cons_zero, List.set_cons_succ]
    refine wpAnyH_done (by kernel_rfl) ?_ _
    have HH2 := hide hHeld.1
    have HB2 := hide hHeld.2
    clear hHeld
    go_wp2_with fail
    go_ret
    exact ⟨rfl, HH2.out, HB2.out⟩
  · rw [hc] at HCMP0
    have HCMP := hide HCMP0
    have HRS := hide (show decide (Heap.tlt (si, X) (sk, Y)) = false from decide_eq_false (by
      rintro (h | h)
      · rw [show Heap.cmpL (si, X).2 (sk, Y).2 = Heap.cmpL X Y from rfl, hc] at h; cases h
      · have := h.1; rw [show Heap.cmpL (si, X).2 (sk, Y).2 = Heap.cmpL X Y from rfl, hc] at this; cases this))
    rw [HRS.out]
    clear HCMP0 hc
    go_enter Tryd.func131, Tryd.ntmps131
    go_upto_region 1 with fail
    refine wp_region_held_drew (S := fun w' => w'.heap = w.heap ∧ Below w.heap.size w w') (by kernel_rfl) ⟨rfl, (Below.refl _ _).drew⟩ (fun hHeld => ?_)
    refine take_d 8 (i := 0) (v := .slice (some ⟨g, 0, none⟩) n c) rfl (by kernel_rfl) (by kernel_rfl) (by kernel_rfl) (by kernel_rfl) (fun _ _ _ h => h) (Or.inl ⟨by kernel_rfl, fun w' hS => exec_move _ rfl _ rfl⟩) hHeld ?_
    try simp only [Act.put, List.setIfInBounds_toArray, List.set_cons_zero, List.set_cons_succ]
    refine take_d 9 (i := 1) (v := .int .i64 (i : Int)) rfl (by kernel_rfl) (by kernel_rfl) (by kernel_rfl) (by kernel_rfl) (fun _ _ _ h => h) (Or.inl ⟨by kernel_rfl, fun w' hS => exec_move _ rfl _ rfl⟩) hHeld ?_
    try simp only [Act.put, List.setIfInBounds_toArray, List.set_cons_zero, List.set_cons_succ]
    refine take_d 10 (i := 2) (v := .pointer (some ⟨g, i * 33, none⟩)) rfl (by kernel_rfl) (by kernel_rfl) (by kernel_rfl) (by kernel_rfl) (fun _ _ _ h => h) (Or.inl ⟨by kernel_rfl, fun w' hS => exec_index_turn _ _ rfl g n c (i : Int) i rfl rfl rfl (by omega)⟩) hHeld ?_
    try simp only [Act.put, List.setIfInBounds_toArray, List.set_cons_zero, List.set_cons_succ]
    refine take_d 11 (i := 3) (v := .pointer (some ⟨g, i * 33 + 1, none⟩)) rfl (by kernel_rfl) (by kernel_rfl) (by kernel_rfl) (by kernel_rfl) (fun _ _ _ h => h) (Or.inl ⟨by kernel_rfl, fun w' hS => exec_field_turn _ 1 1 rfl g (i * 33) rfl rfl⟩) hHeld ?_
    try simp only [Act.put, List.setIfInBounds_toArray, List.set_cons_zero, List.set_cons_succ]
    refine take_d 12 (i := 4) (v := .slice (some ⟨g, i * 33 + 1, none⟩) 32 32) rfl (by kernel_rfl) (by kernel_rfl) (by kernel_rfl) (by kernel_rfl) (fun _ _ _ h => h) (Or.inl ⟨by kernel_rfl, fun w' hS => exec_slice_hash _ rfl g (i * 33 + 1) rfl⟩) hHeld ?_
    try simp only [Act.put, List.setIfInBounds_toArray, List.set_cons_zero, List.set_cons_succ]
    refine take_d 13 (i := 5) (v := .slice (some ⟨g, 0, none⟩) n c) rfl (by kernel_rfl) (by kernel_rfl) (by kernel_rfl) (by kernel_rfl) (fun _ _ _ h => h) (Or.inl ⟨by kernel_rfl, fun w' hS => exec_move _ rfl _ rfl⟩) hHeld ?_
    try simp only [Act.put, List.setIfInBounds_toArray, List.set_cons_zero, List.set_cons_succ]
    refine take_d 14 (i := 6) (v := .int .i64 (k : Int)) rfl (by kernel_rfl) (by kernel_rfl) (by kernel_rfl) (by kernel_rfl) (fun _ _ _ h => h) (Or.inl ⟨by kernel_rfl, fun w' hS => exec_move _ rfl _ rfl⟩) hHeld ?_
    try simp only [Act.put, List.setIfInBounds_toArray, List.set_cons_zero, List.set_cons_succ]
    refine take_d 15 (i := 7) (v := .pointer (some ⟨g, k * 33, none⟩)) rfl (by kernel_rfl) (by kernel_rfl) (by kernel_rfl) (by kernel_rfl) (fun _ _ _ h => h) (Or.inl ⟨by kernel_rfl, fun w' hS => exec_index_turn _ _ rfl g n c (k : Int) k rfl rfl rfl (by omega)⟩) hHeld ?_
    try simp only [Act.put, List.setIfInBounds_toArray, List.set_cons_zero, List.set_cons_succ]
    refine take_d 16 (i := 8) (v := .pointer (some ⟨g, k * 33 + 1, none⟩)) rfl (by kernel_rfl) (by kernel_rfl) (by kernel_rfl) (by kernel_rfl) (fun _ _ _ h => h) (Or.inl ⟨by kernel_rfl, fun w' hS => exec_field_turn _ 1 1 rfl g (k * 33) rfl rfl⟩) hHeld ?_
    try simp only [Act.put, List.setIfInBounds_toArray, List.set_cons_zero, List.set_cons_succ]
    refine take_d 17 (i := 9) (v := .slice (some ⟨g, k * 33 + 1, none⟩) 32 32) rfl (by kernel_rfl) (by kernel_rfl) (by kernel_rfl) (by kernel_rfl) (fun _ _ _ h => h) (Or.inl ⟨by kernel_rfl, fun w' hS => exec_slice_hash _ rfl g (k * 33 + 1) rfl⟩) hHeld ?_
    try simp only [Act.put, List.setIfInBounds_toArray, List.set_cons_zero, List.set_cons_succ]
    refine wpAnyH_ready (rs := [10]) (by kernel_rfl) (by simp) (AllReadyH.cons rfl (fun K hK => ?_) AllReadyH.nil)
    rw [if_pos (by kernel_rfl)]
    try go_simp
    refine (HCMP.out _ hHeld).mono ?_
    rintro e w' ⟨rfl, rfl⟩
    refine hK.out _ _ hHeld (fun hHeld => ?_)
    clear hK K
    try simp only [Act.put, List.setIfInBounds_toArray, List.set_cons_zero, List.set_cons_succ]
    refine take_d 7 (i := 11) (v := .int .i64 1) rfl (by kernel_rfl) (by kernel_rfl) (by kernel_rfl) (by kernel_rfl) (fun _ _ _ h => h) (Or.inl ⟨by kernel_rfl, fun w' hS => exec_assign _ rfl _ rfl⟩) hHeld ?_
    try simp only [Act.put, List.setIfInBounds_toArray, List.set_cons_zero, List.set_cons_succ]
    refine wpAnyH_done (by kernel_rfl) ?_ _
    have HH1 := hide hHeld.1
    have HB1 := hide hHeld.2
    clear hHeld
    go_wp2_with fail
    go_ret
    exact ⟨rfl, HH1.out, HB1.out⟩
end Go.Proofs.YtgjepahhbecljaaDoor

namespace Go.Proofs.YtgjepahhbecljaaDoor
open Go Go.RowKit
set_option linter.unusedVariables false
set_option linter.unusedSimpArgs false
theorem results_none {P : Program} {fn : Func} (h : fn.results = #[]) (tmps : Array Value) (w : World) : (results fn tmps).run P w = .ok (.tuple #[]) w := by simp [results, h]
theorem size_turn : (Tryd.prog.info? 84).map (·.size) = some 33 := by kernel_rfl
theorem turnC_one (x : Heap.T) : ∀ u ∈ turnC x, u.oneCell' = true := fun u hu => by
  rcases List.mem_cons.1 hu with rfl | hu
  · rfl
  · exact u8s_one _ _ hu
theorem lset_take (vs cs : List Value) (o m : Nat) (h : o + vs.length ≤ m) (hm : m ≤ cs.length) : (lset cs o vs).take m = lset (cs.take m) o vs := by
  refine List.ext_getElem? fun k => ?_
  by_cases hk : k < m
  · rw [List.getElem?_take_of_lt hk, lset_get _ _ _ _ (by omega), lset_get _ _ _ _ (by rw [List.length_take]; omega), List.getElem?_take_of_lt hk]
  · rw [List.getElem?_eq_none (by rw [List.length_take]; omega), List.getElem?_eq_none (by rw [lset_len, List.length_take]; omega)]
section
variable {o : Oper} {a : Act} {w : World} {K : Act → World → Prop} {Q : Exit → Act → World → Prop}
theorem wp_turn_loadD (d : Nat) (hd : o.dst = some d) (x : Operand) (ho : o.op = .load 84 x) (base : Nat) (v : Value) (l : List Heap.T) (i g : Nat) {n c : Nat} (hv : v = .slice (some ⟨g, 0, none⟩) n c) (hx : a.eval x = .pointer (some ⟨g, i * 33, none⟩)) (hR : RowT w base v l) (hi : i < l.length) (X : Heap.T) (hX : l[i] = X)
    (h : K (a.put (some d) (.agg (turnC X).toArray)) w) : o.wp Tryd.prog a w K Q := by
  obtain ⟨g', c', e, _, _, _, _, hc⟩ := hR.open_ (by omega)
  rw [hv] at e
  injection e with e1 e2 e3
  injection e1 with e1
  injection e1 with e1
  subst e1
  have hw := hR.2 _ (List.getElem_mem hi)
  rw [hX] at hw
  exact wp_load_mid _ x ho g (i * 33) hx (turnC X) _ (fun j u hu => hc i hi j u (by rw [hX]; exact hu)) Tryd.underlying84 rfl (by rw [turnC_len hw.1]; exact size_turn) (by rw [hd]; exact h)
theorem wp_turn_putD (hd : o.dst = none) (x y : Operand) (ho : o.op = .store 84 x y) (base : Nat) (v : Value) (l : List Heap.T) (i g : Nat) {n c : Nat} (hv : v = .slice (some ⟨g, 0, none⟩) n c) (hx : a.eval x = .pointer (some ⟨g, i * 33, none⟩)) (hR : RowT w base v l) (hi : i < l.length) (z : Heap.T) (hz : z.2.length = 32 ∧ Bytes z.2) (hy : a.eval y = .agg (turnC z).toArray)
    (h : ∀ w', RowT w' base v (l.set i z) → w.grownBy w' (some g) → w'.heap.size = w.heap.size → K (a.put none undef) w') : o.wp Tryd.prog a w K Q := by
  obtain ⟨⟨hl, hvv⟩, hw⟩ := hR
  have hlen := turnsC_len hw
  rcases hvv with ⟨rfl, h1⟩ | ⟨g', cap, cur, e, hbg, hB, hn, hm, hs, ht⟩
  · cases hv
  · rw [hv] at e
    injection e with e1 e2 e3
    injection e1 with e1
    injection e1 with e1
    subst e1 e3
    have hBlk : Blk w g 84 cur.toList := by unfold Blk; rw [hB]
    have hcl : cur.toList.length = c * 33 := by rw [Array.length_toList, hs]
    refine wp_store_blk _ x y ho g (i * 33) (turnC z) hx hy _ _ hBlk (by rw [turnC_len hz.1, hcl]; omega) (by rw [turnC_len hz.1]; exact size_turn) (turnC_one z) fun w' a1 a2 a3 => ?_
    rw [hd]
    refine h w' ⟨⟨by rw [turnsC_len (hw.set i hz)], .inr ⟨g, c, (lset cur.toList (i * 33) (turnC z)).toArray, by rw [hv, e2, List.length_set], hbg, a1, by rw [List.length_set]; exact hn, hm, by rw [List.size_toArray, lset_len, hcl], ?_⟩⟩, hw.set i hz⟩ a2 a3
    rw [List.length_set]
    show (lset cur.toList (i * 33) (turnC z)).take (l.length * 33) = _
    rw [lset_take _ _ _ _ (by rw [turnC_len hz.1]; omega) (by rw [hcl]; omega), ht, turnsC_set hw i hi hz]
end
set_option maxRecDepth 100000
set_option maxHeartbeats 4000000
theorem turns_swap (v : Value) (l : List Heap.T) (w : World) (base i k g n c : Nat) (h : RowT w base v l) (hv : v = .slice (some ⟨g, 0, none⟩) n c) (hi : i < l.length) (hk : k < l.length) :
    Calls Tryd.prog 134 #[v, .int .i64 (i : Int), .int .i64 (k : Int)] w fun e w' => ∃ u, e = .returned u ∧ RowT w' base v (Heap.swpL l i k) ∧ w.grownBy w' (some g) ∧ w'.heap.size = w.heap.size := by
  have HR := hide h
  have HN := hide (show l.length = n by obtain ⟨A, c', e⟩ := h.shape; rw [hv] at e; injection e with _ e2 _; exact e2.symm)
  obtain ⟨X, HX⟩ : ∃ x, Hid (l[i] = x) := ⟨_, hide rfl⟩
  obtain ⟨Y, HY⟩ : ∃ x, Hid (l[k] = x) := ⟨_, hide rfl⟩
  have WX := hide (show X.2.length = 32 ∧ Bytes X.2 by rw [← HX.out]; exact h.2 _ (List.getElem_mem hi))
  have WY := hide (show Y.2.length = 32 ∧ Bytes Y.2 by rw [← HY.out]; exact h.2 _ (List.getElem_mem hk))
  have HS := hide (show Heap.swpL l i k = (l.set i Y).set k X by unfold Heap.swpL; rw [Heap.getD_in l hk, Heap.getD_in l hi, HX.out, HY.out])
  rw [HS.out]
  rw [HN.out] at hi hk
  subst hv
  clear h
  go_enter Tryd.func134, Tryd.ntmps134
  refine wp_region_held_drew (S := fun w' => w'.heap.size = w.heap.size) (by kernel_rfl) rfl (fun hHeld => ?_)
  replace HR := hide (RowT.keptB HR.out (Below.refl _ _).drew)
  have HG := hide (grown_drew (World.grownBy.refl w (some g)))
  refine take_d 6 (i := 0) (v := .slice (some ⟨g, 0, none⟩) n c) rfl (by kernel_rfl) (by kernel_rfl) (by kernel_rfl) (by kernel_rfl) (fun _ _ _ h => h) (Or.inl ⟨by kernel_rfl, fun w' hS => exec_move _ rfl _ rfl⟩) hHeld ?_
  try simp only [Act.put, List.setIfInBounds_toArray, List.set_cons_zero, List.set_cons_succ]
  refine take_d 7 (i := 1) (v := .int .i64 (i : Int)) rfl (by kernel_rfl) (by kernel_rfl) (by kernel_rfl) (by kernel_rfl) (fun _ _ _ h => h) (Or.inl ⟨by kernel_rfl, fun w' hS => exec_move _ rfl _ rfl⟩) hHeld ?_
  try simp only [Act.put, List.setIfInBounds_toArray, List.set_cons_zero, List.set_cons_succ]
  refine take_d 8 (i := 2) (v := .slice (some ⟨g, 0, none⟩) n c) rfl (by kernel_rfl) (by kernel_rfl) (by kernel_rfl) (by kernel_rfl) (fun _ _ _ h => h) (Or.inl ⟨by kernel_rfl, fun w' hS => exec_move _ rfl _ rfl⟩) hHeld ?_
  try simp only [Act.put, List.setIfInBounds_toArray, List.set_cons_zero, List.set_cons_succ]
  refine take_d 9 (i := 3) (v := .int .i64 (k : Int)) rfl (by kernel_rfl) (by kernel_rfl) (by kernel_rfl) (by kernel_rfl) (fun _ _ _ h => h) (Or.inl ⟨by kernel_rfl, fun w' hS => exec_move _ rfl _ rfl⟩) hHeld ?_
  try simp only [Act.put, List.setIfInBounds_toArray, List.set_cons_zero, List.set_cons_succ]
  refine take_d 10 (i := 4) (v := .slice (some ⟨g, 0, none⟩) n c) rfl (by kernel_rfl) (by kernel_rfl) (by kernel_rfl) (by kernel_rfl) (fun _ _ _ h => h) (Or.inl ⟨by kernel_rfl, fun w' hS => exec_move _ rfl _ rfl⟩) hHeld ?_
  try simp only [Act.put, List.setIfInBounds_toArray, List.set_cons_zero, List.set_cons_succ]
  refine take_d 11 (i := 5) (v := .int .i64 (k : Int)) rfl (by kernel_rfl) (by kernel_rfl) (by kernel_rfl) (by kernel_rfl) (fun _ _ _ h => h) (Or.inl ⟨by kernel_rfl, fun w' hS => exec_move _ rfl _ rfl⟩) hHeld ?_
  try simp only [Act.put, List.setIfInBounds_toArray, List.set_cons_zero, List.set_cons_succ]
  refine take_d 12 (i := 6) (v := .pointer (some ⟨g, k * 33, none⟩)) rfl (by kernel_rfl) (by kernel_rfl) (by kernel_rfl) (by kernel_rfl) (fun _ _ _ h => h) (Or.inl ⟨by kernel_rfl, fun w' hS => exec_index_turn _ _ rfl g n c (k : Int) k rfl rfl rfl (by omega)⟩) hHeld ?_
  try simp only [Act.put, List.setIfInBounds_toArray, List.set_cons_zero, List.set_cons_succ]
  refine take_d 14 (i := 8) (v := .slice (some ⟨g, 0, none⟩) n c) rfl (by kernel_rfl) (by kernel_rfl) (by kernel_rfl) (by kernel_rfl) (fun _ _ _ h => h) (Or.inl ⟨by kernel_rfl, fun w' hS => exec_move _ rfl _ rfl⟩) hHeld ?_
  try simp only [Act.put, List.setIfInBounds_toArray, List.set_cons_zero, List.set_cons_succ]
  refine take_d 15 (i := 9) (v := .int .i64 (i : Int)) rfl (by kernel_rfl) (by kernel_rfl) (by kernel_rfl) (by kernel_rfl) (fun _ _ _ h => h) (Or.inl ⟨by kernel_rfl, fun w' hS => exec_move _ rfl _ rfl⟩) hHeld ?_
  try simp only [Act.put, List.setIfInBounds_toArray, List.set_cons_zero, List.set_cons_succ]
  refine take_d 16 (i := 10) (v := .pointer (some ⟨g, i * 33, none⟩)) rfl (by kernel_rfl) (by kernel_rfl) (by kernel_rfl) (by kernel_rfl) (fun _ _ _ h => h) (Or.inl ⟨by kernel_rfl, fun w' hS => exec_index_turn _ _ rfl g n c (i : Int) i rfl rfl rfl (by omega)⟩) hHeld ?_
  try simp only [Act.put, List.setIfInBounds_toArray, List.set_cons_zero, List.set_cons_succ]
  refine wpAnyH_ready (rs := [7, 11]) (by kernel_rfl) (by simp) (AllReadyH.cons rfl (fun K hK => ?q1_7) (AllReadyH.cons rfl (fun K hK => ?q2_11) AllReadyH.nil))
  case q1_7 =>
    rw [if_pos (by kernel_rfl)]
    refine wp_turn_loadD 13 rfl _ rfl base (.slice (some ⟨g, 0, none⟩) n c) l k g rfl rfl HR.out (by rw [HN.out]; exact hk) Y HY.out ?_
    refine hK.out _ _ hHeld (fun hHeld => ?_)
    clear hK K
    try simp only [Act.put, List.setIfInBounds_toArray, List.set_cons_zero, List.set_cons_succ]
    refine wpAnyH_ready (rs := [11]) (by kernel_rfl) (by simp) (AllReadyH.cons rfl (fun K hK => ?_) AllReadyH.nil)
    rw [if_pos (by kernel_rfl)]
    refine wp_turn_loadD 17 rfl _ rfl base (.slice (some ⟨g, 0, none⟩) n c) l i g rfl rfl HR.out (by rw [HN.out]; exact hi) X HX.out ?_
    refine hK.out _ _ hHeld (fun hHeld => ?_)
    clear hK K
    try simp only [Act.put, List.setIfInBounds_toArray, List.set_cons_zero, List.set_cons_succ]
    refine take_d 18 (i := 12) (v := .pointer (some ⟨g, i * 33, none⟩)) rfl (by kernel_rfl) (by kernel_rfl) (by kernel_rfl) (by kernel_rfl) (fun _ _ _ h => h) (Or.inl ⟨by kernel_rfl, fun w' hS => exec_index_turn _ _ rfl g n c (i : Int) i rfl rfl rfl (by omega)⟩) hHeld ?_
    try simp only [Act.put, List.setIfInBounds_toArray, List.set_cons_zero, List.set_cons_succ]
    refine wpAnyH_ready (rs := [13]) (by kernel_rfl) (by simp) (AllReadyH.cons rfl (fun K hK => ?_) AllReadyH.nil)
    rw [if_pos (by kernel_rfl)]
    refine wp_turn_putD rfl _ _ rfl base (.slice (some ⟨g, 0, none⟩) n c) l i g rfl rfl HR.out (by rw [HN.out]; exact hi) Y WY.out rfl ?_
    intro ws hr hg hs
    replace HR := hide hr
    have HG2 := hide (HG.out.trans hg)
    replace HG := HG2
    clear HG2
    have hsz := hs.trans hHeld
    clear hr hg hs
    refine hK.out _ _ hsz (fun hHeld => ?_)
    clear hsz hK K
    try simp only [Act.put, List.setIfInBounds_toArray, List.set_cons_zero, List.set_cons_succ]
    refine take_d 19 (i := 14) (v := .pointer (some ⟨g, k * 33, none⟩)) rfl (by kernel_rfl) (by kernel_rfl) (by kernel_rfl) (by kernel_rfl) (fun _ _ _ h => h) (Or.inl ⟨by kernel_rfl, fun w' hS => exec_index_turn _ _ rfl g n c (k : Int) k rfl rfl rfl (by omega)⟩) hHeld ?_
    try simp only [Act.put, List.setIfInBounds_toArray, List.set_cons_zero, List.set_cons_succ]
    refine wpAnyH_ready (rs := [15]) (by kernel_rfl) (by simp) (AllReadyH.cons rfl (fun K hK => ?_) AllReadyH.nil)
    rw [if_pos (by kernel_rfl)]
    refine wp_turn_putD rfl _ _ rfl base (.slice (some ⟨g, 0, none⟩) n c) (l.set i Y) k g rfl rfl HR.out (by rw [List.length_set, HN.out]; exact hk) X WX.out rfl ?_
    intro ws hr hg hs
    replace HR := hide hr
    have HG2 := hide (HG.out.trans hg)
    replace HG := HG2
    clear HG2
    have hsz := hs.trans hHeld
    clear hr hg hs
    refine hK.out _ _ hsz (fun hHeld => ?_)
    clear hsz hK K
    try simp only [Act.put, List.setIfInBounds_toArray, List.set_cons_zero, List.set_cons_succ]
    refine wpAnyH_done (by kernel_rfl) ?_ _
    first | go_wp2_with fail | skip
    exact bodyPost_end (v := .tuple #[]) (results_none rfl _ _) rfl ⟨_, rfl, HR.out, HG.out, hHeld⟩
  case q2_11 =>
    rw [if_pos (by kernel_rfl)]
    refine wp_turn_loadD 17 rfl _ rfl base (.slice (some ⟨g, 0, none⟩) n c) l i g rfl rfl HR.out (by rw [HN.out]; exact hi) X HX.out ?_
    refine hK.out _ _ hHeld (fun hHeld => ?_)
    clear hK K
    try simp only [Act.put, List.setIfInBounds_toArray, List.set_cons_zero, List.set_cons_succ]
    refine wpAnyH_ready (rs := [7]) (by kernel_rfl) (by simp) (AllReadyH.cons rfl (fun K hK => ?_) AllReadyH.nil)
    rw [if_pos (by kernel_rfl)]
    refine wp_turn_loadD 13 rfl _ rfl base (.slice (some ⟨g, 0, none⟩) n c) l k g rfl rfl HR.out (by rw [HN.out]; exact hk) Y HY.out ?_
    refine hK.out _ _ hHeld (fun hHeld => ?_)
    clear hK K
    try simp only [Act.put, List.setIfInBounds_toArray, List.set_cons_zero, List.set_cons_succ]
    refine take_d 18 (i := 12) (v := .pointer (some ⟨g, i * 33, none⟩)) rfl (by kernel_rfl) (by kernel_rfl) (by kernel_rfl) (by kernel_rfl) (fun _ _ _ h => h) (Or.inl ⟨by kernel_rfl, fun w' hS => exec_index_turn _ _ rfl g n c (i : Int) i rfl rfl rfl (by omega)⟩) hHeld ?_
    try simp only [Act.put, List.setIfInBounds_toArray, List.set_cons_zero, List.set_cons_succ]
    refine wpAnyH_ready (rs := [13]) (by kernel_rfl) (by simp) (AllReadyH.cons rfl (fun K hK => ?_) AllReadyH.nil)
    rw [if_pos (by kernel_rfl)]
    refine wp_turn_putD rfl _ _ rfl base (.slice (some ⟨g, 0, none⟩) n c) l i g rfl rfl HR.out (by rw [HN.out]; exact hi) Y WY.out rfl ?_
    intro ws hr hg hs
    replace HR := hide hr
    have HG2 := hide (HG.out.trans hg)
    replace HG := HG2
    clear HG2
    have hsz := hs.trans hHeld
    clear hr hg hs
    refine hK.out _ _ hsz (fun hHeld => ?_)
    clear hsz hK K
    try simp only [Act.put, List.setIfInBounds_toArray, List.set_cons_zero, List.set_cons_succ]
    refine take_d 19 (i := 14) (v := .pointer (some ⟨g, k * 33, none⟩)) rfl (by kernel_rfl) (by kernel_rfl) (by kernel_rfl) (by kernel_rfl) (fun _ _ _ h => h) (Or.inl ⟨by kernel_rfl, fun w' hS => exec_index_turn _ _ rfl g n c (k : Int) k rfl rfl rfl (by omega)⟩) hHeld ?_
    try simp only [Act.put, List.setIfInBounds_toArray, List.set_cons_zero, List.set_cons_succ]
    refine wpAnyH_ready (rs := [15]) (by kernel_rfl) (by simp) (AllReadyH.cons rfl (fun K hK => ?_) AllReadyH.nil)
    rw [if_pos (by kernel_rfl)]
    refine wp_turn_putD rfl _ _ rfl base (.slice (some ⟨g, 0, none⟩) n c) (l.set i Y) k g rfl rfl HR.out (by rw [List.length_set, HN.out]; exact hk) X WX.out rfl ?_
    intro ws hr hg hs
    replace HR := hide hr
    have HG2 := hide (HG.out.trans hg)
    replace HG := HG2
    clear HG2
    have hsz := hs.trans hHeld
    clear hr hg hs
    refine hK.out _ _ hsz (fun hHeld => ?_)
    clear hsz hK K
    try simp only [Act.put, List.setIfInBounds_toArray, List.set_cons_zero, List.set_cons_succ]
    refine wpAnyH_done (by kernel_rfl) ?_ _
    first | go_wp2_with fail | skip
    exact bodyPost_end (v := .tuple #[]) (results_none rfl _ _) rfl ⟨_, rfl, HR.out, HG.out, hHeld⟩
end Go.Proofs.YtgjepahhbecljaaDoor

namespace Go.Proofs.YtgjepahhbecljaaDoor
open Go Go.RowKit
def turn0 : Value := .agg (turnC (0, List.replicate 32 0)).toArray
theorem el_turn : ElemOf Tryd.prog 81 84 33 40 := elem_of Tryd.underlying81 (z := turn0) (by kernel_rfl) rfl (by decide) (by decide)
theorem RowT.push {w : World} {base : Nat} {v : Value} {l : List Heap.T} {x : Heap.T} (h : w.ownsRow base 84 33 v (l.length + 1) (turnsC l ++ turnC x)) (hw : WfT l) (hx : x.2.length = 32 ∧ Bytes x.2) : RowT w base v (l ++ [x]) := by
  refine ⟨?_, fun y hy => ?_⟩
  · rw [List.length_append, show turnsC (l ++ [x]) = turnsC l ++ turnC x by simp [turnsC]]
    exact h
  · rcases List.mem_append.1 hy with h1 | h1
    · exact hw y h1
    · rw [List.mem_singleton.1 h1]; exact hx
section
variable {o : Oper} {a : Act} {w : World}
theorem exec_assert_turn (x : Operand) (t : TypeId) (ho : o.op = .typeAssert x t 84 false) (v : Value) (hx : a.eval x = .iface 84 v) : (execOp a.eval o).run Tryd.prog w = .ok (.value v) w := by
  unfold execOp
  simp only [ho, hx]
  have h : Tryd.prog.underlying 84 = _ := Tryd.underlying84
  simp [Instr.typeAssert, run_underlying h, go_sem]
end
end Go.Proofs.YtgjepahhbecljaaDoor

namespace Go.Proofs.YtgjepahhbecljaaDoor
open Go Go.RowKit
set_option linter.unusedVariables false
set_option linter.unusedSimpArgs false

/-- Block k holds no turns and no row of turns. -/
def NotT (w : World) (k : Nat) : Prop := ∀ cs t f, w.heap[k]? = some (.cells cs t f) → t ≠ 81 ∧ t ≠ 84
/-- Nothing old has turned below 'base', nor any block that holds no turns. -/
structure Turned (base : Nat) (w w' : World) : Prop where
  below : Below base w w'
  keep : ∀ k, k < w.heap.size → NotT w k → w'.heap[k]? = w.heap[k]?
theorem Turned.refl (base : Nat) (w : World) : Turned base w w := ⟨Below.refl _ _, fun _ _ _ => rfl⟩
theorem Turned.trans {base : Nat} {a b c : World} (h : Turned base a b) (k : Turned base b c) : Turned base a c :=
  ⟨h.below.trans k.below, fun i hi hn => by
    have e := h.keep i hi hn
    rw [k.keep i (by have := h.below.size; omega) (by intro cs t f hc; rw [e] at hc; exact hn cs t f hc), e]⟩
theorem Turned.of_below {base : Nat} {w w' : World} (h : Below w.heap.size w w') (hb : base ≤ w.heap.size) : Turned base w w' := ⟨h.mono hb, fun k hk _ => h.block k hk⟩
theorem Turned.of_grown {base g : Nat} {w w' : World} (h : w.grownBy w' (some g)) (hb : base ≤ g) (hs : base ≤ w.heap.size) {cs : Array Value} {t : TypeId} {f : Nat × Nat} (hg : w.heap[g]? = some (.cells cs t f)) (ht : t = 81 ∨ t = 84) : Turned base w w' :=
  ⟨⟨h.os, h.tape, h.output, h.size, fun k hk => h.block k (by omega) (by intro e; injection e with e; omega)⟩, fun k hk hn => h.block k hk (by
    intro e
    injection e with e
    subst e
    rcases ht with ht | ht
    · exact (hn cs t f hg).1 ht
    · exact (hn cs t f hg).2 ht)⟩
theorem Turned.drew {base : Nat} {w w' : World} (h : Turned base w w') : Turned base w w'.drew := ⟨h.below.drew, h.keep⟩
theorem Turned.more {base base' : Nat} {w w' : World} (h : Turned base w w') (hb : base' ≤ base) : Turned base' w w' := ⟨h.below.mono hb, h.keep⟩

/-- The pointer's block b holds a row of turns of the call's own. -/
def HeapB (w : World) (base b : Nat) (v : Value) (l : List Heap.T) : Prop := Blk w b 81 [v] ∧ base ≤ b ∧ RowT w base v l
theorem RowT.block {w : World} {base : Nat} {v : Value} {l : List Heap.T} (h : RowT w base v l) {g n c : Nat} (hv : v = .slice (some ⟨g, 0, none⟩) n c) : base ≤ g ∧ g < w.heap.size ∧ n = l.length ∧ ∃ cur, w.heap[g]? = some (.cells cur 84 (0, 0)) := by
  obtain ⟨⟨hl, hvv⟩, hw⟩ := h
  rcases hvv with ⟨rfl, h1⟩ | ⟨g', cap, cur, e, hbg, hB, hn, hm, hs, ht⟩
  · cases hv
  · rw [hv] at e
    injection e with e1 e2 e3
    injection e1 with e1
    injection e1 with e1
    subst e1
    exact ⟨hbg, (Array.getElem?_eq_some_iff.1 hB).1, e2, cur, hB⟩
theorem HeapB.keptB {w w' : World} {base b : Nat} {v : Value} {l : List Heap.T} (h : HeapB w base b v l) (hb : Below w.heap.size w w') : HeapB w' base b v l :=
  ⟨h.1.below hb h.1.lt, h.2.1, h.2.2.keptB hb⟩
theorem HeapB.ne {w : World} {base b : Nat} {v : Value} {l : List Heap.T} (h : HeapB w base b v l) {g n c : Nat} (hv : v = .slice (some ⟨g, 0, none⟩) n c) : g ≠ b := by
  obtain ⟨_, _, _, cur, hg⟩ := h.2.2.block hv
  intro e
  subst e
  have h1 := h.1
  unfold Blk at h1
  rw [hg] at h1
  injection h1 with h1
  injection h1 with _ h1
  exact absurd h1 (by decide)
theorem HeapB.cell {w : World} {base b : Nat} {v : Value} {l : List Heap.T} (h : HeapB w base b v l) : w.cell? ⟨b, 0, none⟩ = some v := by rw [h.1.cell]; rfl
theorem HeapB.size {w : World} {base b : Nat} {v : Value} {l : List Heap.T} (h : HeapB w base b v l) : base ≤ w.heap.size := by have := h.1.lt; have := h.2.1; omega

/-- The pointer's own method call: the interface's value stands for the row. -/
abbrev hp (b : Nat) : Value := .iface 79 (.pointer (some ⟨b, 0, none⟩))
theorem isAgg_turns (w : World) : (isAgg 81).run Tryd.prog w = .ok false w := by kernel_rfl
theorem run_load_turns {w : World} {b : Nat} {v : Value} (h : w.cell? ⟨b, 0, none⟩ = some v) : (loadVar 81 ⟨b, 0, none⟩).run Tryd.prog w = .ok v w := by
  unfold loadVar
  simp only [Sem.run_bind, isAgg_turns, Result.andThen_ok]
  simp [run_load, h]
theorem run_wrapnil {P : Program} (w : World) (t : TypeId) (a : Addr) (s m : String) : (Builtin.ssaWrapNilChk_ #[t] t #[.pointer (some a), strVal s, strVal m]).run P w = .ok (.pointer (some a)) w := rfl
theorem meth_val (b : Nat) (w : World) (f : Nat) (nm : String) (hn : (Tryd.prog.info? 79).map (fun i => (i.methods.find? (·.name == nm)).map fun m => (m.path, m.func)) = some (some (#[], some (f, false)))) {v : Value} (h : w.cell? ⟨b, 0, none⟩ = some v) :
    (Go.method (Tryd.prog.types.size + Made.depth) 79 (.pointer (some ⟨b, 0, none⟩)) nm).run Tryd.prog w = .ok (f, v) w := by
  have hd : 0 < Made.depth := by decide
  obtain ⟨n, e⟩ : ∃ n, Tryd.prog.types.size + Made.depth = n + 1 := ⟨Tryd.prog.types.size + Made.depth - 1, by omega⟩
  rw [e]
  rcases hi : Tryd.prog.info? 79 with _ | i
  · rw [hi] at hn; cases hn
  rw [hi] at hn
  simp only [Option.map_some, Option.some.injEq] at hn
  rcases hm : i.methods.find? (·.name == nm) with _ | m
  · rw [hm] at hn; cases hn
  rw [hm] at hn
  simp only [Option.map_some, Option.some.injEq, Prod.mk.injEq] at hn
  obtain ⟨h1, h2⟩ := hn
  unfold Go.method
  simp only [Sem.run_bind, typeInfo, run_program, Result.andThen_ok, hi, hm, h1, h2, follow, Sem.run_pure, receiverAt, run_underlying (show Tryd.prog.underlying 79 = some (.pointer 81) from Tryd.underlying79), Place.get]
  simp [run_wrapnil, asAddr, run_load_turns h, follow]
theorem meth_len0 : (Tryd.prog.info? 79).map (fun i => (i.methods.find? (·.name == "Len")).map fun m => (m.path, m.func)) = some (some (#[], some (75, false))) := by kernel_rfl
theorem meth_less0 : (Tryd.prog.info? 79).map (fun i => (i.methods.find? (·.name == "Less")).map fun m => (m.path, m.func)) = some (some (#[], some (131, false))) := by kernel_rfl
theorem meth_swap0 : (Tryd.prog.info? 79).map (fun i => (i.methods.find? (·.name == "Swap")).map fun m => (m.path, m.func)) = some (some (#[], some (134, false))) := by kernel_rfl
theorem meth_push (b : Nat) (w : World) : (Go.method (Tryd.prog.types.size + Made.depth) 79 (.pointer (some ⟨b, 0, none⟩)) "Push").run Tryd.prog w = .ok (133, .pointer (some ⟨b, 0, none⟩)) w := by kernel_rfl
theorem meth_pop (b : Nat) (w : World) : (Go.method (Tryd.prog.types.size + Made.depth) 79 (.pointer (some ⟨b, 0, none⟩)) "Pop").run Tryd.prog w = .ok (132, .pointer (some ⟨b, 0, none⟩)) w := by kernel_rfl

section
variable {ops : Array Oper} {rest : List Oper} {o : Oper} {a : Act} {w : World} {Q : Exit → Act → World → Prop}
theorem wpList_inv (hw : Region.wanted o (yielded ops a.tmps) = true) (recv : Operand) (name : String) (args : Array Operand) (ts : Array TypeId) (ho : o.op = .call { callee := .invoke recv name, args := args, argTypes := ts })
    (b : Nat) (hx : a.eval recv = hp b) (f : Nat) (hf : ∀ xs w, (callFunc f xs).run Tryd.prog w = .ok (.enter f xs) w) (rv : Value)
    (hm : (Go.method (Tryd.prog.types.size + Made.depth) 79 (.pointer (some ⟨b, 0, none⟩)) name).run Tryd.prog w = .ok (f, rv) w)
    (avs : List Value) (ha : args.map a.eval = avs.toArray) {R : Ending → World → Prop} (hc : Calls Tryd.prog f (rv :: avs).toArray w R) (hr : ∀ e w', R e w' → ∃ u, e = .returned u)
    (h : ∀ u w', R (.returned u) w' → wpList Tryd.prog ops Q rest (a.put o.dst u) w') : wpList Tryd.prog ops Q (o :: rest) a w := by
  refine wpList_step fun K hK => ?_
  rw [if_pos hw]
  have hrun : (execOp a.eval o).run Tryd.prog w = .ok (.enter f (rv :: avs).toArray) w := by
    unfold execOp
    simp only [ho, resolve, Sem.run_bind, Sem.run_pure, Result.andThen_ok, hx, ha, invoke]
    simp only [hp, List.append_toArray, List.singleton_append, List.getElem?_toArray, List.getElem?_cons_zero, callMethod]
    simp only [Sem.run_bind, run_program, Result.andThen_ok, hm, hf]
    simp
  unfold Oper.wp
  rw [hrun, Oper.upon_enter]
  refine hc.mono ?_
  intro e w' hR
  obtain ⟨u, rfl⟩ := hr e w' hR
  exact hK _ _ (h u w' hR)
end
end Go.Proofs.YtgjepahhbecljaaDoor

namespace Go.Proofs.YtgjepahhbecljaaDoor
open Go Go.RowKit
set_option linter.unusedVariables false
set_option linter.unusedSimpArgs false
set_option maxRecDepth 100000
set_option maxHeartbeats 4000000
theorem less_calls {v : Value} {l : List Heap.T} {w : World} {base b i k : Nat} (h : HeapB w base b v l) (hi : i < l.length) (hk : k < l.length) :
    Calls Tryd.prog 131 (v :: [.int .i64 (i : Int), .int .i64 (k : Int)]).toArray w fun e w' => e = .returned (.bool (decide (Heap.tlt (Heap.fn l i) (Heap.fn l k)))) ∧ HeapB w' base b v l ∧ Turned base w w' :=
  (turns_less v l w base i k h.2.2 hi hk).mono fun e w' ⟨h1, h2, h3⟩ => ⟨h1, h.keptB h3, Turned.of_below h3 h.size⟩
theorem swap_calls {v : Value} {l : List Heap.T} {w : World} {base b i k : Nat} (h : HeapB w base b v l) (hi : i < l.length) (hk : k < l.length) :
    Calls Tryd.prog 134 (v :: [.int .i64 (i : Int), .int .i64 (k : Int)]).toArray w fun e w' => (∃ u, e = .returned u) ∧ HeapB w' base b v (Heap.swpL l i k) ∧ Turned base w w' := by
  obtain ⟨g, c, hv, _, _, _, _, _⟩ := h.2.2.open_ (by omega)
  obtain ⟨hbg, hgs, _, cur, hg⟩ := h.2.2.block hv
  refine (turns_swap v l w base i k g _ c h.2.2 hv hi hk).mono ?_
  rintro e w' ⟨u, rfl, h1, h2, h3⟩
  exact ⟨⟨u, rfl⟩, ⟨h.1.grown h2 (by intro e; injection e with e; exact h.ne hv e.symm), h.2.1, h1⟩, Turned.of_grown h2 hbg h.size hg (.inr rfl)⟩
theorem heap_up (v : Value) (l : List Heap.T) (w : World) (base b j : Nat) (h : HeapB w base b v l) (hj : j < l.length) (hm : l.length ≤ 1000) (hU : Heap.Up Heap.tlt (Heap.fn l) l.length j) :
    Calls Tryd.prog 85 #[hp b, .int .i64 (j : Int)] w fun e w' => (∃ u, e = .returned u) ∧ ∃ l', l'.Perm l ∧ HeapB w' base b v l' ∧ Heap.Is Heap.tlt (Heap.fn l') l'.length ∧ Turned base w w' := by
  have HB := hide h
  have HU := hide hU
  clear h hU
  go_enter Tryd.func85, Tryd.ntmps85
  go_wp2_with fail
  go_loopw [1] (fun v1 wr => ∃ (i : Nat) (m : List Heap.T), v1 = .int .i64 i ∧ i < m.length ∧ m.length ≤ 1000 ∧ m.Perm l ∧ HeapB wr base b v m ∧ Heap.Up Heap.tlt (Heap.fn m) m.length i ∧ Turned base w wr) (fun v1 _ => (intOf v1).toNat)
  case atStart => exact ⟨j, l, rfl, hj, hm, List.Perm.refl _, HB.out, HU.out, Turned.refl _ _⟩
  case round =>
    obtain ⟨i, m, rfl, hi, hm2, hp1, hb, hu, ht⟩ := hrel
    clear HB HU
    have HB := hide hb
    have HU := hide hu
    have HP := hide hp1
    have HT := hide ht
    clear hb hu hp1 ht
    have hmeth := hide (meth_val b wr 131 "Less" meth_less0 HB.out.cell)
    rcases Nat.eq_zero_or_pos i with rfl | hi0
    · go_wp2_with go_skip
      exact bodyPost_end (v := .tuple #[]) (results_none rfl _ _) rfl ⟨⟨_, rfl⟩, m, HP.out, HB.out, Heap.up_done HU.out (.inl rfl), HT.out⟩
    · obtain ⟨p, HPP⟩ : ∃ p, Hid (Heap.par i = p) := ⟨_, hide rfl⟩
      have hpi : p = (i - 1) / 2 := HPP.out.symm
      have hp2 : p < i := by omega
      have hpm : p < m.length := by omega
      have hq : ((i : Int) - 1).tdiv 2 = (p : Int) := by rw [Int.tdiv_eq_ediv_of_nonneg (by omega)]; omega
      have hne : ((p : Int) == (i : Int)) = false := by rw [beq_eq_false_iff_ne]; omega
      obtain ⟨d, HD⟩ : ∃ d, Hid (decide (Heap.tlt (Heap.fn m i) (Heap.fn m p)) = d) := ⟨_, hide rfl⟩
      have HL := hide (less_calls HB.out hi hpm)
      rw [HD.out] at HL
      clear hpi
      rcases d with _ | _
      · have HN := hide (show ¬ Heap.tlt (Heap.fn m i) (Heap.fn m (Heap.par i)) by rw [HPP.out]; exact of_decide_eq_false HD.out)
        clear HD HPP
        go_wp2_with (first
          | go_skip
          | (refine wpList_inv (by kernel_rfl) _ _ _ _ rfl b rfl 131 Tryd.call131 v hmeth.out [.int .i64 (i : Int), .int .i64 (p : Int)] (by simp [Act.eval]) HL.out (by rintro e w' ⟨rfl, _⟩; exact ⟨_, rfl⟩) ?_; rintro u w1 ⟨hu1, hb1, ht1⟩; injection hu1 with hu1; subst hu1; have HB1 := hide hb1; have HT1 := hide (HT.out.trans ht1); clear hb1 ht1 hmeth HL HB HT))
        exact bodyPost_end (v := .tuple #[]) (results_none rfl _ _) rfl ⟨⟨_, rfl⟩, m, HP.out, HB1.out, Heap.up_done HU.out (.inr HN.out), HT1.out⟩
      · have HN := hide (show Heap.tlt (Heap.fn m i) (Heap.fn m (Heap.par i)) by rw [HPP.out]; exact of_decide_eq_true HD.out)
        clear HD
        go_wp2_with (first
          | go_skip
          | (refine wpList_inv (by kernel_rfl) _ _ _ _ rfl b rfl 131 Tryd.call131 v hmeth.out [.int .i64 (i : Int), .int .i64 (p : Int)] (by simp [Act.eval]) HL.out (by rintro e w' ⟨rfl, _⟩; exact ⟨_, rfl⟩) ?_; rintro u w1 ⟨hu1, hb1, ht1⟩; injection hu1 with hu1; subst hu1; have HB1 := hide hb1; have HT1 := hide (HT.out.trans ht1); have hmeth2 := hide (meth_val b w1 134 "Swap" meth_swap0 HB1.out.cell); have HS := hide (swap_calls HB1.out hpm hi); clear hb1 ht1 hmeth HL HB HT)
          | (refine wpList_inv (by kernel_rfl) _ _ _ _ rfl b rfl 134 Tryd.call134 v hmeth2.out [.int .i64 (p : Int), .int .i64 (i : Int)] (by simp [Act.eval]) HS.out (by rintro e w' ⟨h, _⟩; exact h) ?_; rintro u w2 ⟨hu2, hb2, ht2⟩; have HB2 := hide hb2; have HT2 := hide (HT1.out.trans ht2); clear hu2 hb2 ht2 hmeth2 HS HB1 HT1))
        go_roundw
        case measure => simp [intOf]; omega
        case rel =>
          refine ⟨p, Heap.swpL m p i, by go_num, by rw [Heap.swpL_len]; exact hpm, by rw [Heap.swpL_len]; exact hm2, (Heap.swpL_perm m hpm hi).trans HP.out, HB2.out, ?_, HT2.out⟩
          have := Heap.up_stepL HU.out hi0 hi HN.out
          rw [HPP.out] at this
          exact this
end Go.Proofs.YtgjepahhbecljaaDoor

namespace Go.Proofs.YtgjepahhbecljaaDoor
open Go Go.RowKit
set_option linter.unusedVariables false
set_option linter.unusedSimpArgs false
set_option maxRecDepth 100000
set_option maxHeartbeats 8000000
theorem heap_down (v : Value) (l : List Heap.T) (w : World) (base b n : Nat) (h : HeapB w base b v l) (hn : n ≤ l.length) (hm : l.length ≤ 1000) (hU : Heap.Dn Heap.tlt (Heap.fn l) n 0) :
    Calls Tryd.prog 86 #[hp b, .int .i64 0, .int .i64 (n : Int)] w fun e w' => (∃ u, e = .returned u) ∧ ∃ l', l'.Perm l ∧ l'.drop n = l.drop n ∧ HeapB w' base b v l' ∧ Heap.Is Heap.tlt (Heap.fn l') n ∧ Turned base w w' := by
  have HB := hide h
  have HU := hide hU
  clear h hU
  go_enter Tryd.func86, Tryd.ntmps86
  go_wp2_with fail
  go_loopw [7] (fun v7 wr => ∃ (i : Nat) (m : List Heap.T), v7 = .int .i64 i ∧ i ≤ n ∧ n ≤ m.length ∧ m.length ≤ 1000 ∧ m.Perm l ∧ m.drop n = l.drop n ∧ HeapB wr base b v m ∧ Heap.Dn Heap.tlt (Heap.fn m) n i ∧ Turned base w wr) (fun v7 _ => n - (intOf v7).toNat)
  case atStart => exact ⟨0, l, by go_num, by omega, hn, hm, List.Perm.refl _, rfl, HB.out, HU.out, Turned.refl _ _⟩
  case round =>
    obtain ⟨i, m, rfl, hi, hnm, hm2, hp1, hd1, hb, hu, ht⟩ := hrel
    clear HB HU
    have HB0 := hide hb
    have HU := hide hu
    have HP := hide hp1
    have HD := hide hd1
    have HT0 := hide ht
    clear hb hu hp1 hd1 ht
    have hmeth := hide (meth_val b wr 131 "Less" meth_less0 HB0.out.cell)
    obtain ⟨a, HA⟩ : ∃ a, Hid (2 * i + 1 = a) := ⟨_, hide rfl⟩
    have ha : (2 : Int) * (i : Int) + 1 = (a : Int) := by have := HA.out; omega
    have hia : i < a := by have := HA.out; omega
    by_cases hna : n ≤ a
    · have hna' : (n : Int) ≤ (a : Int) := by omega
      have HE := hide (Heap.dn_none HU.out (by have := HA.out; omega))
      clear hmeth
      go_wp2_with (first
        | go_skip
        | fail)
      go_ret
      exact ⟨⟨_, rfl⟩, m, HP.out, HD.out, HB0.out, HE.out, HT0.out⟩
    · have hna' : ¬ (n : Int) ≤ (a : Int) := by omega
      have ha0 : ¬ (a : Int) < 0 := by omega
      obtain ⟨c, HC⟩ : ∃ c, Hid (a + 1 = c) := ⟨_, hide rfl⟩
      have hc : (a : Int) + 1 = (c : Int) := by have := HC.out; omega
      have ham : a < m.length := by omega
      have him : i < m.length := by omega
      have HPA := hide (show Heap.par a = i by unfold Heap.par; have := HA.out; omega)
      have HPC := hide (show Heap.par c = i by unfold Heap.par; have := HA.out; have := HC.out; omega)
      have HCA := hide (show a = 2 * i + 1 ∧ c = 2 * i + 2 by have := HA.out; have := HC.out; omega)
      have hac : a < c := by have := HC.out; omega
      by_cases hcn : c < n
      · have hcn' : (c : Int) < (n : Int) := by omega
        obtain ⟨d1, HD1⟩ : ∃ d, Hid (decide (Heap.tlt (Heap.fn m c) (Heap.fn m a)) = d) := ⟨_, hide rfl⟩
        have HL1 := hide (less_calls HB0.out (show c < m.length by omega) ham)
        rw [HD1.out] at HL1
        rcases d1 with _ | _
        · have HLS := hide (show Heap.Least (Heap.fn m) n i a by
            have h := of_decide_eq_false HD1.out
            rw [HCA.out.1, HCA.out.2] at h
            rw [HCA.out.1]
            exact Heap.least_one fun h' => h h'.2)
          obtain ⟨d2, HD2⟩ : ∃ d, Hid (decide (Heap.tlt (Heap.fn m a) (Heap.fn m i)) = d) := ⟨_, hide rfl⟩
          rcases d2 with _ | _
          · have HE := hide (Heap.dn_stop HU.out HLS.out (of_decide_eq_false HD2.out))
            go_wp2_with (first
              | go_skip
              | (show wpList _ _ _ ({ dst := some 32, op := _, type := _, pos := _, after := _, guard := _ } :: _) _ _; (show wpList _ _ _ ({ dst := some 32, op := _, type := _, pos := _, after := _, guard := _ } :: _) _ _; refine wpList_inv (by kernel_rfl) _ _ _ _ rfl b rfl 131 Tryd.call131 v hmeth.out [.int .i64 (c : Int), .int .i64 (a : Int)] (by simp [Act.eval]) HL1.out (by rintro e w' ⟨rfl, _⟩; exact ⟨_, rfl⟩) ?_; rintro u w1 ⟨hu1, hb1, ht1⟩; injection hu1 with hu1; subst hu1; have HB1 := hide hb1; have HT1 := hide (HT0.out.trans ht1); clear hb1 ht1 hmeth HL1 HB0 HT0))
              | (show wpList _ _ _ ({ dst := some 38, op := _, type := _, pos := _, after := _, guard := _ } :: _) _ _; have HQ := hide (less_calls HB1.out (show a < m.length by omega) him); rw [HD2.out] at HQ; have hmethq := hide (meth_val b _ 131 "Less" meth_less0 HB1.out.cell); (show wpList _ _ _ ({ dst := some 38, op := _, type := _, pos := _, after := _, guard := _ } :: _) _ _; refine wpList_inv (by kernel_rfl) _ _ _ _ rfl b rfl 131 Tryd.call131 v hmethq.out [.int .i64 (a : Int), .int .i64 (i : Int)] (by simp [Act.eval]) HQ.out (by rintro e w' ⟨rfl, _⟩; exact ⟨_, rfl⟩) ?_; rintro u w2 ⟨hu1, hb1, ht1⟩; injection hu1 with hu1; subst hu1; have HB2 := hide hb1; have HT2 := hide (HT1.out.trans ht1); clear hb1 ht1 hmethq HQ HB1 HT1)))
            go_ret
            exact ⟨⟨_, rfl⟩, m, HP.out, HD.out, HB2.out, HE.out, HT2.out⟩
          · have HL2 := hide (of_decide_eq_true HD2.out)
            go_wp2_with (first
              | go_skip
              | (show wpList _ _ _ ({ dst := some 32, op := _, type := _, pos := _, after := _, guard := _ } :: _) _ _; (show wpList _ _ _ ({ dst := some 32, op := _, type := _, pos := _, after := _, guard := _ } :: _) _ _; refine wpList_inv (by kernel_rfl) _ _ _ _ rfl b rfl 131 Tryd.call131 v hmeth.out [.int .i64 (c : Int), .int .i64 (a : Int)] (by simp [Act.eval]) HL1.out (by rintro e w' ⟨rfl, _⟩; exact ⟨_, rfl⟩) ?_; rintro u w1 ⟨hu1, hb1, ht1⟩; injection hu1 with hu1; subst hu1; have HB1 := hide hb1; have HT1 := hide (HT0.out.trans ht1); clear hb1 ht1 hmeth HL1 HB0 HT0))
              | (show wpList _ _ _ ({ dst := some 38, op := _, type := _, pos := _, after := _, guard := _ } :: _) _ _; have HQ := hide (less_calls HB1.out (show a < m.length by omega) him); rw [HD2.out] at HQ; have hmethq := hide (meth_val b _ 131 "Less" meth_less0 HB1.out.cell); (show wpList _ _ _ ({ dst := some 38, op := _, type := _, pos := _, after := _, guard := _ } :: _) _ _; refine wpList_inv (by kernel_rfl) _ _ _ _ rfl b rfl 131 Tryd.call131 v hmethq.out [.int .i64 (a : Int), .int .i64 (i : Int)] (by simp [Act.eval]) HQ.out (by rintro e w' ⟨rfl, _⟩; exact ⟨_, rfl⟩) ?_; rintro u w2 ⟨hu1, hb1, ht1⟩; injection hu1 with hu1; subst hu1; have HB2 := hide hb1; have HT2 := hide (HT1.out.trans ht1); clear hb1 ht1 hmethq HQ HB1 HT1))
              | (show wpList _ _ _ ({ dst := some 43, op := _, type := _, pos := _, after := _, guard := _ } :: _) _ _; have hmeths := hide (meth_val b _ 134 "Swap" meth_swap0 HB2.out.cell); have HS := hide (swap_calls HB2.out him (show a < m.length by omega)); (show wpList _ _ _ ({ dst := some 43, op := _, type := _, pos := _, after := _, guard := _ } :: _) _ _; refine wpList_inv (by kernel_rfl) _ _ _ _ rfl b rfl 134 Tryd.call134 v hmeths.out [.int .i64 (i : Int), .int .i64 (a : Int)] (by simp [Act.eval]) HS.out (by rintro e w' ⟨h, _⟩; exact h) ?_; rintro u w9 ⟨hu2, hb2, ht2⟩; have HB9 := hide hb2; have HT9 := hide (HT2.out.trans ht2); clear hu2 hb2 ht2 hmeths HS HB2 HT2)))
            go_roundw
            case measure => simp [intOf]; omega
            case rel =>
              refine ⟨a, Heap.swpL m i a, by go_num, by omega, by rw [Heap.swpL_len]; exact hnm, by rw [Heap.swpL_len]; exact hm2, (Heap.swpL_perm m him (by omega)).trans HP.out, by rw [Heap.swpL_drop m (by omega) (by omega)]; exact HD.out, HB9.out, Heap.dn_stepL HU.out hnm (by omega) (by omega) HPA.out HL2.out HLS.out, HT9.out⟩
        · have HLS := hide (show Heap.Least (Heap.fn m) n i c by
            have h := of_decide_eq_true HD1.out
            rw [HCA.out.1, HCA.out.2] at h
            rw [HCA.out.2]
            exact Heap.least_two h)
          obtain ⟨d2, HD2⟩ : ∃ d, Hid (decide (Heap.tlt (Heap.fn m c) (Heap.fn m i)) = d) := ⟨_, hide rfl⟩
          rcases d2 with _ | _
          · have HE := hide (Heap.dn_stop HU.out HLS.out (of_decide_eq_false HD2.out))
            go_wp2_with (first
              | go_skip
              | (show wpList _ _ _ ({ dst := some 32, op := _, type := _, pos := _, after := _, guard := _ } :: _) _ _; (show wpList _ _ _ ({ dst := some 32, op := _, type := _, pos := _, after := _, guard := _ } :: _) _ _; refine wpList_inv (by kernel_rfl) _ _ _ _ rfl b rfl 131 Tryd.call131 v hmeth.out [.int .i64 (c : Int), .int .i64 (a : Int)] (by simp [Act.eval]) HL1.out (by rintro e w' ⟨rfl, _⟩; exact ⟨_, rfl⟩) ?_; rintro u w1 ⟨hu1, hb1, ht1⟩; injection hu1 with hu1; subst hu1; have HB1 := hide hb1; have HT1 := hide (HT0.out.trans ht1); clear hb1 ht1 hmeth HL1 HB0 HT0))
              | (show wpList _ _ _ ({ dst := some 38, op := _, type := _, pos := _, after := _, guard := _ } :: _) _ _; have HQ := hide (less_calls HB1.out (show c < m.length by omega) him); rw [HD2.out] at HQ; have hmethq := hide (meth_val b _ 131 "Less" meth_less0 HB1.out.cell); (show wpList _ _ _ ({ dst := some 38, op := _, type := _, pos := _, after := _, guard := _ } :: _) _ _; refine wpList_inv (by kernel_rfl) _ _ _ _ rfl b rfl 131 Tryd.call131 v hmethq.out [.int .i64 (c : Int), .int .i64 (i : Int)] (by simp [Act.eval]) HQ.out (by rintro e w' ⟨rfl, _⟩; exact ⟨_, rfl⟩) ?_; rintro u w2 ⟨hu1, hb1, ht1⟩; injection hu1 with hu1; subst hu1; have HB2 := hide hb1; have HT2 := hide (HT1.out.trans ht1); clear hb1 ht1 hmethq HQ HB1 HT1)))
            go_ret
            exact ⟨⟨_, rfl⟩, m, HP.out, HD.out, HB2.out, HE.out, HT2.out⟩
          · have HL2 := hide (of_decide_eq_true HD2.out)
            go_wp2_with (first
              | go_skip
              | (show wpList _ _ _ ({ dst := some 32, op := _, type := _, pos := _, after := _, guard := _ } :: _) _ _; (show wpList _ _ _ ({ dst := some 32, op := _, type := _, pos := _, after := _, guard := _ } :: _) _ _; refine wpList_inv (by kernel_rfl) _ _ _ _ rfl b rfl 131 Tryd.call131 v hmeth.out [.int .i64 (c : Int), .int .i64 (a : Int)] (by simp [Act.eval]) HL1.out (by rintro e w' ⟨rfl, _⟩; exact ⟨_, rfl⟩) ?_; rintro u w1 ⟨hu1, hb1, ht1⟩; injection hu1 with hu1; subst hu1; have HB1 := hide hb1; have HT1 := hide (HT0.out.trans ht1); clear hb1 ht1 hmeth HL1 HB0 HT0))
              | (show wpList _ _ _ ({ dst := some 38, op := _, type := _, pos := _, after := _, guard := _ } :: _) _ _; have HQ := hide (less_calls HB1.out (show c < m.length by omega) him); rw [HD2.out] at HQ; have hmethq := hide (meth_val b _ 131 "Less" meth_less0 HB1.out.cell); (show wpList _ _ _ ({ dst := some 38, op := _, type := _, pos := _, after := _, guard := _ } :: _) _ _; refine wpList_inv (by kernel_rfl) _ _ _ _ rfl b rfl 131 Tryd.call131 v hmethq.out [.int .i64 (c : Int), .int .i64 (i : Int)] (by simp [Act.eval]) HQ.out (by rintro e w' ⟨rfl, _⟩; exact ⟨_, rfl⟩) ?_; rintro u w2 ⟨hu1, hb1, ht1⟩; injection hu1 with hu1; subst hu1; have HB2 := hide hb1; have HT2 := hide (HT1.out.trans ht1); clear hb1 ht1 hmethq HQ HB1 HT1))
              | (show wpList _ _ _ ({ dst := some 43, op := _, type := _, pos := _, after := _, guard := _ } :: _) _ _; have hmeths := hide (meth_val b _ 134 "Swap" meth_swap0 HB2.out.cell); have HS := hide (swap_calls HB2.out him (show c < m.length by omega)); (show wpList _ _ _ ({ dst := some 43, op := _, type := _, pos := _, after := _, guard := _ } :: _) _ _; refine wpList_inv (by kernel_rfl) _ _ _ _ rfl b rfl 134 Tryd.call134 v hmeths.out [.int .i64 (i : Int), .int .i64 (c : Int)] (by simp [Act.eval]) HS.out (by rintro e w' ⟨h, _⟩; exact h) ?_; rintro u w9 ⟨hu2, hb2, ht2⟩; have HB9 := hide hb2; have HT9 := hide (HT2.out.trans ht2); clear hu2 hb2 ht2 hmeths HS HB2 HT2)))
            go_roundw
            case measure => simp [intOf]; omega
            case rel =>
              refine ⟨c, Heap.swpL m i c, by go_num, by omega, by rw [Heap.swpL_len]; exact hnm, by rw [Heap.swpL_len]; exact hm2, (Heap.swpL_perm m him (by omega)).trans HP.out, by rw [Heap.swpL_drop m (by omega) (by omega)]; exact HD.out, HB9.out, Heap.dn_stepL HU.out hnm (by omega) (by omega) HPC.out HL2.out HLS.out, HT9.out⟩
      · have hcn' : ¬ (c : Int) < (n : Int) := by omega
        have HLS := hide (show Heap.Least (Heap.fn m) n i a by
            rw [HCA.out.1]
            exact Heap.least_one fun h' => by have := HCA.out.2; omega)
        clear hmeth
        obtain ⟨d2, HD2⟩ : ∃ d, Hid (decide (Heap.tlt (Heap.fn m a) (Heap.fn m i)) = d) := ⟨_, hide rfl⟩
        rcases d2 with _ | _
        · have HE := hide (Heap.dn_stop HU.out HLS.out (of_decide_eq_false HD2.out))
          go_wp2_with (first
            | go_skip
            | (show wpList _ _ _ ({ dst := some 38, op := _, type := _, pos := _, after := _, guard := _ } :: _) _ _; have HQ := hide (less_calls HB0.out (show a < m.length by omega) him); rw [HD2.out] at HQ; have hmethq := hide (meth_val b _ 131 "Less" meth_less0 HB0.out.cell); (show wpList _ _ _ ({ dst := some 38, op := _, type := _, pos := _, after := _, guard := _ } :: _) _ _; refine wpList_inv (by kernel_rfl) _ _ _ _ rfl b rfl 131 Tryd.call131 v hmethq.out [.int .i64 (a : Int), .int .i64 (i : Int)] (by simp [Act.eval]) HQ.out (by rintro e w' ⟨rfl, _⟩; exact ⟨_, rfl⟩) ?_; rintro u w1 ⟨hu1, hb1, ht1⟩; injection hu1 with hu1; subst hu1; have HB1 := hide hb1; have HT1 := hide (HT0.out.trans ht1); clear hb1 ht1 hmethq HQ HB0 HT0)))
          go_ret
          exact ⟨⟨_, rfl⟩, m, HP.out, HD.out, HB1.out, HE.out, HT1.out⟩
        · have HL2 := hide (of_decide_eq_true HD2.out)
          go_wp2_with (first
            | go_skip
            | (show wpList _ _ _ ({ dst := some 38, op := _, type := _, pos := _, after := _, guard := _ } :: _) _ _; have HQ := hide (less_calls HB0.out (show a < m.length by omega) him); rw [HD2.out] at HQ; have hmethq := hide (meth_val b _ 131 "Less" meth_less0 HB0.out.cell); (show wpList _ _ _ ({ dst := some 38, op := _, type := _, pos := _, after := _, guard := _ } :: _) _ _; refine wpList_inv (by kernel_rfl) _ _ _ _ rfl b rfl 131 Tryd.call131 v hmethq.out [.int .i64 (a : Int), .int .i64 (i : Int)] (by simp [Act.eval]) HQ.out (by rintro e w' ⟨rfl, _⟩; exact ⟨_, rfl⟩) ?_; rintro u w1 ⟨hu1, hb1, ht1⟩; injection hu1 with hu1; subst hu1; have HB1 := hide hb1; have HT1 := hide (HT0.out.trans ht1); clear hb1 ht1 hmethq HQ HB0 HT0))
            | (show wpList _ _ _ ({ dst := some 43, op := _, type := _, pos := _, after := _, guard := _ } :: _) _ _; have hmeths := hide (meth_val b _ 134 "Swap" meth_swap0 HB1.out.cell); have HS := hide (swap_calls HB1.out him (show a < m.length by omega)); (show wpList _ _ _ ({ dst := some 43, op := _, type := _, pos := _, after := _, guard := _ } :: _) _ _; refine wpList_inv (by kernel_rfl) _ _ _ _ rfl b rfl 134 Tryd.call134 v hmeths.out [.int .i64 (i : Int), .int .i64 (a : Int)] (by simp [Act.eval]) HS.out (by rintro e w' ⟨h, _⟩; exact h) ?_; rintro u w9 ⟨hu2, hb2, ht2⟩; have HB9 := hide hb2; have HT9 := hide (HT1.out.trans ht2); clear hu2 hb2 ht2 hmeths HS HB1 HT1)))
          go_roundw
          case measure => simp [intOf]; omega
          case rel =>
            refine ⟨a, Heap.swpL m i a, by go_num, by omega, by rw [Heap.swpL_len]; exact hnm, by rw [Heap.swpL_len]; exact hm2, (Heap.swpL_perm m him (by omega)).trans HP.out, by rw [Heap.swpL_drop m (by omega) (by omega)]; exact HD.out, HB9.out, Heap.dn_stepL HU.out hnm (by omega) (by omega) HPA.out HL2.out HLS.out, HT9.out⟩
end Go.Proofs.YtgjepahhbecljaaDoor

namespace Go.Proofs.YtgjepahhbecljaaDoor
open Go Go.RowKit
set_option linter.unusedVariables false
set_option linter.unusedSimpArgs false
set_option maxRecDepth 100000
section
variable {P : Program} {o : Oper} {a : Act} {w : World} {K : Act → World → Prop} {Q : Exit → Act → World → Prop} {ops : Array Oper} {rest : List Oper}
theorem wp_exD {v : Value} (d : Nat) (hd : o.dst = some d) (h : (execOp a.eval o).run P w = .ok (.value v) w) (hn : K (a.put (some d) v) w) : o.wp P a w K Q := by
  unfold Oper.wp
  rw [h, Oper.upon_value, hd]
  exact hn
theorem wpList_ex {v : Value} (hgd : o.guard = none) (h : (execOp a.eval o).run P w = .ok (.value v) w) (hn : wpList P ops Q rest (a.put o.dst v) w) : wpList P ops Q (o :: rest) a w :=
  wpList_plain hgd fun _ hK => by
    unfold Oper.wp
    rw [h, Oper.upon_value]
    exact hK _ _ hn
theorem exec_nilCheckT (x : Operand) (ho : o.op = .nilCheck x) (p : Addr) (hx : a.eval x = .pointer (some p)) : (execOp a.eval o).run Tryd.prog w = .ok (.value (.pointer (some p))) w := by
  unfold execOp
  simp only [ho, hx]
  go_simp
theorem wp_lit_turn (y : Operand) (ho : o.op = .buildSlice 81 1 #[(0, y)]) (x : Heap.T) (hx : x.2.length = 32) (hy : a.eval y = .agg (turnC x).toArray)
    (h : ∀ w', Blk w' w.heap.size 84 (turnC x) → Below w.heap.size w w' → w'.heap.size = w.heap.size + 1 → K (a.put o.dst (.slice (some ⟨w.heap.size, 0, none⟩) 1 1)) w') : o.wp Tryd.prog a w K Q := by
  obtain ⟨i, z, ht, hi, hz, hsize, hby, hzs, _, _⟩ := el_turn
  refine wp_buildSlice 81 84 1 _ ho (turnC x).toArray i z ht hi hz (by rw [hsize]; omega) (by rw [hsize]; omega) ?_ (h _ (Blk.new w 84 (turnC x)) ((Below.refl _ _).alloc (Nat.le_refl _) _) (by simp))
  have e : (#[(0, y)].map fun (p : Nat × Operand) => (p.1, a.eval p.2)).toList = ([Value.agg (turnC x).toArray].zipIdx 0).map fun x => (x.2, x.1) := by simp [hy]
  rw [e, hsize]
  have := Great.fill_whole (s := 33) (by decide) [Value.agg (turnC x).toArray] ((Array.range (1 * 33)).map (z.cells[· % z.cells.size]!)) (by intro u hu; rw [List.mem_singleton.1 hu]; show (turnC x).toArray.size = 33; rw [List.size_toArray, turnC_len hx]) (by simp)
  rw [this]
  congr 2
  show ([Value.agg (turnC x).toArray].flatMap fun v => v.cells.toList) = turnC x
  simp [Value.cells]
theorem wp_lit_turnD (d : Nat) (hd : o.dst = some d) (y : Operand) (ho : o.op = .buildSlice 81 1 #[(0, y)]) (x : Heap.T) (hx : x.2.length = 32) (hy : a.eval y = .agg (turnC x).toArray)
    (h : ∀ w', Blk w' w.heap.size 84 (turnC x) → Below w.heap.size w w' → w'.heap.size = w.heap.size + 1 → K (a.put (some d) (.slice (some ⟨w.heap.size, 0, none⟩) 1 1)) w') : o.wp Tryd.prog a w K Q :=
  wp_lit_turn y ho x hx hy fun w' h1 h2 h3 => by rw [hd]; exact h w' h1 h2 h3
theorem size_turns : (Tryd.prog.info? 81).map (·.size) = some 1 := by kernel_rfl
theorem wp_turns_put {b : Nat} {v v0 : Value} (hd : o.dst = none) (x y : Operand) (ho : o.op = .store 81 x y) (hx : a.eval x = .pointer (some ⟨b, 0, none⟩)) (hB : Blk w b 81 [v0]) (hy : a.eval y = v) (h1 : v.oneCell' = true)
    (h : ∀ w', Blk w' b 81 [v] → w.grownBy w' (some b) → w'.heap.size = w.heap.size → K (a.put none undef) w') : o.wp Tryd.prog a w K Q := by
  have hg := grown_setCells (g := b) [v] w 0
  refine wp_store_one _ x y ho b 0 hx _ hy (by rw [hB.cell]; rfl) (Blk.frozen hB _) h1 size_turns ?_
  rw [hd]
  exact h _ (Blk.set_ hB 0 v) hg.1 hg.2
theorem wpList_turns_put {b : Nat} {v v0 : Value} (hgd : o.guard = none) (x y : Operand) (ho : o.op = .store 81 x y) (hx : a.eval x = .pointer (some ⟨b, 0, none⟩)) (hB : Blk w b 81 [v0]) (hy : a.eval y = v) (h1 : v.oneCell' = true)
    (h : ∀ w', Blk w' b 81 [v] → w.grownBy w' (some b) → w'.heap.size = w.heap.size → wpList Tryd.prog ops Q rest (a.put o.dst undef) w') : wpList Tryd.prog ops Q (o :: rest) a w := 
  wpList_plain hgd fun _ hK => by
    have hg := grown_setCells (g := b) [v] w 0
    exact wp_store_one _ x y ho b 0 hx _ hy (by rw [hB.cell]; rfl) (Blk.frozen hB _) h1 size_turns (hK _ _ (h _ (Blk.set_ hB 0 v) hg.1 hg.2))
theorem RowT.kept {w' : World} {base : Nat} {v : Value} {l : List Heap.T} {row : Option Nat} (h : RowT w base v l) (hg : w.grownBy w' row) (hne : v.ownBlock = none ∨ v.ownBlock ≠ row) : RowT w' base v l := ⟨h.1.kept hg hne, h.2⟩
theorem Turned.of_own {w' : World} {base : Nat} {v : Value} {l : List Heap.T} (h : RowT w base v l) (hg : w.grownBy w' v.ownBlock) (hs : base ≤ w.heap.size) : Turned base w w' := by
  rcases h.1.2 with ⟨rfl, _⟩ | ⟨g, cap, cur, e, hbg, hB, _⟩
  · exact ⟨⟨hg.os, hg.tape, hg.output, hg.size, fun k hk => hg.block k (by omega) (by simp [Value.ownBlock])⟩, fun k hk _ => hg.block k hk (by simp [Value.ownBlock])⟩
  · rw [e] at hg
    exact Turned.of_grown hg hbg hs hB (.inr rfl)
theorem turnsC_take : ∀ {l : List Heap.T}, WfT l → ∀ n, (turnsC l).take (n * 33) = turnsC (l.take n)
  | [], _, n => by simp [turnsC]
  | x :: l, h, 0 => by simp [turnsC]
  | x :: l, h, n + 1 => by
    have ih := turnsC_take (l := l) (fun y hy => h y (List.mem_cons_of_mem _ hy)) n
    show (turnC x ++ turnsC l).take ((n + 1) * 33) = turnC x ++ turnsC (l.take n)
    rw [List.take_append, turnC_len (h x List.mem_cons_self).1, show (n + 1) * 33 - 33 = n * 33 by omega, ih, List.take_of_length_le (by rw [turnC_len (h x List.mem_cons_self).1]; omega)]
theorem RowT.cut {base g n m c : Nat} {l : List Heap.T} (h : RowT w base (.slice (some ⟨g, 0, none⟩) m c) l) (hn : n ≤ l.length) : RowT w base (.slice (some ⟨g, 0, none⟩) n c) (l.take n) := by
  obtain ⟨⟨hl, hv⟩, hw⟩ := h
  have hw' : WfT (l.take n) := fun y hy => hw y (List.mem_of_mem_take hy)
  have hl' : (l.take n).length = n := by rw [List.length_take]; omega
  refine ⟨⟨turnsC_len hw', ?_⟩, hw'⟩
  rcases hv with ⟨h1, _⟩ | ⟨g', cap, cur, e, hbg, hB, h1, h2, h3, h4⟩
  · cases h1
  · injection e with e1 e2 e3
    injection e1 with e1
    injection e1 with e1
    subst e1 e3
    refine .inr ⟨g, c, cur, by rw [hl'], hbg, hB, by omega, h2, h3, ?_⟩
    rw [hl', ← turnsC_take hw n, ← h4, List.take_take, Nat.min_eq_left (by omega)]
theorem wpList_turn_load (hgd : o.guard = none) (x : Operand) (ho : o.op = .load 84 x) (base : Nat) (v : Value) (l : List Heap.T) (i g : Nat) {n c : Nat} (hv : v = .slice (some ⟨g, 0, none⟩) n c) (hx : a.eval x = .pointer (some ⟨g, i * 33, none⟩)) (hR : RowT w base v l) (hi : i < l.length) (X : Heap.T) (hX : l[i] = X)
    (h : wpList Tryd.prog ops Q rest (a.put o.dst (.agg (turnC X).toArray)) w) : wpList Tryd.prog ops Q (o :: rest) a w :=
  wpList_plain hgd fun K hK => by
    obtain ⟨g', c', e, _, _, _, _, hc⟩ := hR.open_ (by omega)
    rw [hv] at e
    injection e with e1 e2 e3
    injection e1 with e1
    injection e1 with e1
    subst e1
    have hw := hR.2 _ (List.getElem_mem hi)
    rw [hX] at hw
    exact wp_load_mid _ x ho g (i * 33) hx (turnC X) _ (fun j u hu => hc i hi j u (by rw [hX]; exact hu)) Tryd.underlying84 rfl (by rw [turnC_len hw.1]; exact size_turn) (hK _ _ h)
theorem wpList_blk_load (hgd : o.guard = none) (ty : TypeId) (x : Operand) (ho : o.op = .load ty x) (g : Nat) (hx : a.eval x = .pointer (some ⟨g, 0, none⟩)) (cs : List Value) {t : TypeId} (hB : Blk w g t cs) {d : TypeDesc} (hu : P.underlying ty = some d) (hd : d.isRow = true) (hi : (P.info? ty).map (·.size) = some cs.length)
    (h : wpList P ops Q rest (a.put o.dst (.agg cs.toArray)) w) : wpList P ops Q (o :: rest) a w :=
  wpList_plain hgd fun K hK => wp_load_mid _ x ho g 0 hx cs _ (blk_range hB 0 cs (fun j u hu => by rw [Nat.zero_add]; exact hu)) hu hd hi (hK _ _ h)
theorem zero_turn : (Tryd.prog.info? 84).map (·.zero) = some (some (.agg (turnC (0, List.replicate 32 0)).toArray)) := by kernel_rfl
theorem HeapB.grown {w' : World} {base b : Nat} {v : Value} {l : List Heap.T} {row : Option Nat} (h : HeapB w base b v l) (hg : w.grownBy w' row) (h1 : some b ≠ row) (h2 : v.ownBlock ≠ row) : HeapB w' base b v l := ⟨h.1.grown hg h1, h.2.1, h.2.2.kept hg (.inr h2)⟩
theorem Blk.unlike {g g' : Nat} {t t' : TypeId} {cs cs' : List Value} (h : Blk w g t cs) (h' : Blk w g' t' cs') (hne : t ≠ t') : g ≠ g' := fun e => by
  subst e
  unfold Blk at h h'
  rw [h] at h'
  injection h' with h'
  injection h' with _ h'
  exact hne h'
theorem lset_whole {cs vs : List Value} (h : vs.length = cs.length) : lset cs 0 vs = vs := by
  refine List.ext_getElem? fun k => ?_
  rw [lset_get _ _ _ _ (by omega)]
  by_cases hk : k < vs.length
  · rw [if_pos (by omega)]; simp
  · rw [if_neg (by omega), List.getElem?_eq_none (by omega), List.getElem?_eq_none (by omega)]
end
set_option maxHeartbeats 8000000
theorem turns_push (x : Heap.T) (v : Value) (l : List Heap.T) (w : World) (base b : Nat) (h : HeapB w base b v l) (hx : x.2.length = 32 ∧ Bytes x.2) (hm : l.length ≤ 1000) :
    Calls Tryd.prog 133 #[.pointer (some ⟨b, 0, none⟩), .iface 84 (.agg (turnC x).toArray)] w fun e w' => ∃ u, e = .returned u ∧ ∃ v', HeapB w' base b v' (l ++ [x]) ∧ Turned base w w' := by
  have HB := hide h
  have HX := hide hx
  have HT := hide (Turned.refl base w)
  clear h hx
  go_enter Tryd.func133, Tryd.ntmps133
  refine wp_region_held_drew (S := fun _ => True) (by kernel_rfl) trivial (fun hHeld => ?_)
  replace HB := hide (HB.out.keptB (Below.refl _ _).drew)
  replace HT := hide (HT.out.drew)
  refine take_d 4 (i := 0) (v := .pointer (some ⟨b, 0, none⟩)) rfl (by kernel_rfl) (by kernel_rfl) (by kernel_rfl) (by kernel_rfl) (fun _ _ _ h => h) (Or.inl ⟨by kernel_rfl, fun w' hS => exec_move _ rfl _ rfl⟩) hHeld ?_
  try simp only [Act.put, List.setIfInBounds_toArray, List.set_cons_zero, List.set_cons_succ]
  refine take_d 5 (i := 1) (v := .pointer (some ⟨b, 0, none⟩)) rfl (by kernel_rfl) (by kernel_rfl) (by kernel_rfl) (by kernel_rfl) (fun _ _ _ h => h) (Or.inl ⟨by kernel_rfl, fun w' hS => exec_move _ rfl _ rfl⟩) hHeld ?_
  try simp only [Act.put, List.setIfInBounds_toArray, List.set_cons_zero, List.set_cons_succ]
  refine take_d 6 (i := 2) (v := .pointer (some ⟨b, 0, none⟩)) rfl (by kernel_rfl) (by kernel_rfl) (by kernel_rfl) (by kernel_rfl) (fun _ _ _ h => h) (Or.inl ⟨by kernel_rfl, fun w' hS => exec_nilCheckT _ rfl _ rfl⟩) hHeld ?_
  try simp only [Act.put, List.setIfInBounds_toArray, List.set_cons_zero, List.set_cons_succ]
  refine take_d 8 (i := 4) (v := .iface 84 (.agg (turnC x).toArray)) rfl (by kernel_rfl) (by kernel_rfl) (by kernel_rfl) (by kernel_rfl) (fun _ _ _ h => h) (Or.inl ⟨by kernel_rfl, fun w' hS => exec_move _ rfl _ rfl⟩) hHeld ?_
  try simp only [Act.put, List.setIfInBounds_toArray, List.set_cons_zero, List.set_cons_succ]
  refine take_d 9 (i := 5) (v := .agg (turnC x).toArray) rfl (by kernel_rfl) (by kernel_rfl) (by kernel_rfl) (by kernel_rfl) (fun _ _ _ h => h) (Or.inl ⟨by kernel_rfl, fun w' hS => exec_assert_turn _ _ rfl _ rfl⟩) hHeld ?_
  try simp only [Act.put, List.setIfInBounds_toArray, List.set_cons_zero, List.set_cons_succ]
  refine wpAnyH_ready (rs := [3, 6]) (by kernel_rfl) (by simp) (AllReadyH.cons rfl (fun K hK => ?q1_3) (AllReadyH.cons rfl (fun K hK => ?q2_6) AllReadyH.nil))
  case q1_3 =>
    rw [if_pos (by kernel_rfl)]
    refine wp_exD 7 rfl (exec_load_one _ _ rfl b 0 rfl _ Tryd.underlying81 rfl _ HB.out.cell) ?_
    refine hK.out _ _ hHeld (fun hHeld => ?_)
    clear hK K
    try simp only [Act.put, List.setIfInBounds_toArray, List.set_cons_zero, List.set_cons_succ]
    refine wpAnyH_ready (rs := [6]) (by kernel_rfl) (by simp) (AllReadyH.cons rfl (fun K hK => ?_) AllReadyH.nil)
    rw [if_pos (by kernel_rfl)]
    refine wp_lit_turnD 10 rfl _ rfl x HX.out.1 rfl ?_
    intro wl hbl hbb hsz
    have HL := hide (Rd.of_blk (B := wl.heap.size) hbl (by omega) 33 1 1 (by rw [turnC_len HX.out.1]) (Nat.le_refl _) (by decide))
    have HT2 := hide (HT.out.trans (Turned.of_below hbb HB.out.size))
    replace HB := hide (HB.out.keptB hbb)
    replace HT := HT2
    clear hbl hbb hsz HT2
    refine hK.out _ _ hHeld (fun hHeld => ?_)
    clear hK K
    try simp only [Act.put, List.setIfInBounds_toArray, List.set_cons_zero, List.set_cons_succ]
    refine wpAnyH_ready (rs := [7]) (by kernel_rfl) (by simp) (AllReadyH.cons rfl (fun K hK => ?_) AllReadyH.nil)
    rw [if_pos (by kernel_rfl)]
    refine wp_append_rdD _ 11 rfl _ _ _ rfl base _ 33 40 el_turn v l.length (turnsC l) rfl HB.out.2.2.1 _ _ 1 (turnC x) rfl HL.out (turnC_one x) (by omega) HB.out.size ?_
    intro v2 w2 ho2 hg2 _
    have HR := hide (RowT.push ho2 HB.out.2.2.2 HX.out)
    have HK := hide (HB.out.1.grown hg2 (own_ne_blk HB.out.2.2.1 HB.out.1 (by decide)))
    have HT2 := hide (HT.out.trans (Turned.of_own HB.out.2.2 hg2 HB.out.size))
    have hsb := HB.out.2.1
    replace HT := HT2
    clear HT2 ho2 hg2 HL HB
    refine hK.out _ _ hHeld (fun hHeld => ?_)
    clear hK K
    try simp only [Act.put, List.setIfInBounds_toArray, List.set_cons_zero, List.set_cons_succ]
    refine take_d 12 (i := 8) (v := .pointer (some ⟨b, 0, none⟩)) rfl (by kernel_rfl) (by kernel_rfl) (by kernel_rfl) (by kernel_rfl) (fun _ _ _ h => h) (Or.inl ⟨by kernel_rfl, fun w' hS => exec_nilCheckT _ rfl _ rfl⟩) hHeld ?_
    try simp only [Act.put, List.setIfInBounds_toArray, List.set_cons_zero, List.set_cons_succ]
    refine wpAnyH_ready (rs := [9]) (by kernel_rfl) (by simp) (AllReadyH.cons rfl (fun K hK => ?_) AllReadyH.nil)
    rw [if_pos (by kernel_rfl)]
    refine wp_turns_put rfl _ _ rfl rfl HK.out rfl (own_one HR.out.1 v2 (List.mem_singleton.2 rfl)) ?_
    intro w3 hb3 hg3 hz3
    have HB3 := hide (show HeapB w3 base b v2 (l ++ [x]) from ⟨hb3, hsb, HR.out.kept hg3 (.inr (Ne.symm (own_ne_blk HR.out.1 HK.out (by decide))))⟩)
    have HT3 := hide (HT.out.trans (Turned.of_grown hg3 hsb (by have := HK.out.lt; omega) HK.out (.inl rfl)))
    clear hb3 hg3 hz3 HK HR HT
    refine hK.out _ _ hHeld (fun hHeld => ?_)
    clear hK K
    try simp only [Act.put, List.setIfInBounds_toArray, List.set_cons_zero, List.set_cons_succ]
    refine wpAnyH_done (by kernel_rfl) ?_ _
    first | go_wp2_with fail | skip
    exact bodyPost_end (v := .tuple #[]) (results_none rfl _ _) rfl ⟨_, rfl, v2, HB3.out, HT3.out⟩
  case q2_6 =>
    rw [if_pos (by kernel_rfl)]
    refine wp_lit_turnD 10 rfl _ rfl x HX.out.1 rfl ?_
    intro wl hbl hbb hsz
    have HL := hide (Rd.of_blk (B := wl.heap.size) hbl (by omega) 33 1 1 (by rw [turnC_len HX.out.1]) (Nat.le_refl _) (by decide))
    have HT2 := hide (HT.out.trans (Turned.of_below hbb HB.out.size))
    replace HB := hide (HB.out.keptB hbb)
    replace HT := HT2
    clear hbl hbb hsz HT2
    refine hK.out _ _ hHeld (fun hHeld => ?_)
    clear hK K
    try simp only [Act.put, List.setIfInBounds_toArray, List.set_cons_zero, List.set_cons_succ]
    refine wpAnyH_ready (rs := [3]) (by kernel_rfl) (by simp) (AllReadyH.cons rfl (fun K hK => ?_) AllReadyH.nil)
    rw [if_pos (by kernel_rfl)]
    refine wp_exD 7 rfl (exec_load_one _ _ rfl b 0 rfl _ Tryd.underlying81 rfl _ HB.out.cell) ?_
    refine hK.out _ _ hHeld (fun hHeld => ?_)
    clear hK K
    try simp only [Act.put, List.setIfInBounds_toArray, List.set_cons_zero, List.set_cons_succ]
    refine wpAnyH_ready (rs := [7]) (by kernel_rfl) (by simp) (AllReadyH.cons rfl (fun K hK => ?_) AllReadyH.nil)
    rw [if_pos (by kernel_rfl)]
    refine wp_append_rdD _ 11 rfl _ _ _ rfl base _ 33 40 el_turn v l.length (turnsC l) rfl HB.out.2.2.1 _ _ 1 (turnC x) rfl HL.out (turnC_one x) (by omega) HB.out.size ?_
    intro v2 w2 ho2 hg2 _
    have HR := hide (RowT.push ho2 HB.out.2.2.2 HX.out)
    have HK := hide (HB.out.1.grown hg2 (own_ne_blk HB.out.2.2.1 HB.out.1 (by decide)))
    have HT2 := hide (HT.out.trans (Turned.of_own HB.out.2.2 hg2 HB.out.size))
    have hsb := HB.out.2.1
    replace HT := HT2
    clear HT2 ho2 hg2 HL HB
    refine hK.out _ _ hHeld (fun hHeld => ?_)
    clear hK K
    try simp only [Act.put, List.setIfInBounds_toArray, List.set_cons_zero, List.set_cons_succ]
    refine take_d 12 (i := 8) (v := .pointer (some ⟨b, 0, none⟩)) rfl (by kernel_rfl) (by kernel_rfl) (by kernel_rfl) (by kernel_rfl) (fun _ _ _ h => h) (Or.inl ⟨by kernel_rfl, fun w' hS => exec_nilCheckT _ rfl _ rfl⟩) hHeld ?_
    try simp only [Act.put, List.setIfInBounds_toArray, List.set_cons_zero, List.set_cons_succ]
    refine wpAnyH_ready (rs := [9]) (by kernel_rfl) (by simp) (AllReadyH.cons rfl (fun K hK => ?_) AllReadyH.nil)
    rw [if_pos (by kernel_rfl)]
    refine wp_turns_put rfl _ _ rfl rfl HK.out rfl (own_one HR.out.1 v2 (List.mem_singleton.2 rfl)) ?_
    intro w3 hb3 hg3 hz3
    have HB3 := hide (show HeapB w3 base b v2 (l ++ [x]) from ⟨hb3, hsb, HR.out.kept hg3 (.inr (Ne.symm (own_ne_blk HR.out.1 HK.out (by decide))))⟩)
    have HT3 := hide (HT.out.trans (Turned.of_grown hg3 hsb (by have := HK.out.lt; omega) HK.out (.inl rfl)))
    clear hb3 hg3 hz3 HK HR HT
    refine hK.out _ _ hHeld (fun hHeld => ?_)
    clear hK K
    try simp only [Act.put, List.setIfInBounds_toArray, List.set_cons_zero, List.set_cons_succ]
    refine wpAnyH_done (by kernel_rfl) ?_ _
    first | go_wp2_with fail | skip
    exact bodyPost_end (v := .tuple #[]) (results_none rfl _ _) rfl ⟨_, rfl, v2, HB3.out, HT3.out⟩
theorem turns_pop (v : Value) (l : List Heap.T) (n : Nat) (w : World) (base b : Nat) (h : HeapB w base b v l) (hn : l.length = n + 1) (hm : l.length ≤ 1000) :
    Calls Tryd.prog 132 #[.pointer (some ⟨b, 0, none⟩)] w fun e w' => e = .returned (.iface 84 (.agg (turnC (Heap.fn l n)).toArray)) ∧ ∃ v', HeapB w' base b v' (l.take n) ∧ Turned base w w' := by
  obtain ⟨g, c, rfl, hbg, hgw, hlc, hcm, _⟩ := h.2.2.open_ (by omega)
  rw [hn] at hlc
  obtain ⟨X, HXX⟩ : ∃ x, Hid (Heap.fn l n = x) := ⟨_, hide rfl⟩
  have HX2 := hide (show l[n]'(by omega) = X by rw [← HXX.out]; exact (Heap.getD_in l (by omega)).symm)
  have HX := hide (show X.2.length = 32 by rw [← HX2.out]; exact (h.2.2.2 _ (List.getElem_mem _)).1)
  have HB := hide h
  obtain ⟨m, HM⟩ : ∃ m, Hid (n + 1 = m) := ⟨_, hide rfl⟩
  have HN := hide (show l.length = m by rw [hn]; exact HM.out)
  rw [HN.out] at HB
  rw [HM.out] at hlc hn
  rw [HXX.out]
  have hm1 : (m : Int) - 1 = (n : Int) := by have := HM.out; omega
  have hnm : n < m := by have := HM.out; omega
  have hnc : (n : Int) ≤ (c : Int) := by omega
  have hc0 : w.cell? ⟨b, 0, none⟩ = some (.slice (some ⟨g, 0, none⟩) m c) := HB.out.cell
  have hsb := HB.out.size
  rw [maxLen_eq] at hcm
  clear h hn HM
  go_enter Tryd.func132, Tryd.ntmps132
  go_wp2_with (first
    | (refine wpList_ex rfl (exec_index_turn _ _ rfl g m c (n : Int) n rfl rfl rfl hnm) ?_)
    | (refine wpList_turn_load rfl _ rfl base _ l n g rfl rfl HB.out.2.2 (by rw [HN.out]; exact hnm) X HX2.out ?_)
    | (refine wpList_alloc_blk rfl 84 rfl (turnC (0, List.replicate 32 0)) zero_turn ?_; intro w1 hb1 hw1 hz1; have HB1 := hide (HB.out.keptB hw1); have HT1 := hide (Turned.of_below hw1 hsb); have HK1 := hide hb1; have hc1 : w1.cell? ⟨b, 0, none⟩ = some (.slice (some ⟨g, 0, none⟩) m c) := HB1.out.cell; clear hb1 hw1 HB hc0)
    | (refine wpList_store_blk rfl 84 _ _ rfl w.heap.size 0 (turnC X) rfl rfl _ _ HK1.out (by rw [turnC_len HX.out, turnC_len (by simp)]; omega) (by rw [turnC_len HX.out]; exact size_turn) (turnC_one X) ?_; intro w2 hb2 hg2 hz2; have HB2 := hide (HeapB.grown HB1.out hg2 (by intro e; injection e with e; exact Blk.unlike HB1.out.1 HK1.out (by decide) e) (by simp only [Value.ownBlock]; intro e; injection e with e; omega)); have HT2 := hide (HT1.out.trans (Turned.of_grown hg2 hsb (by omega) HK1.out (.inr rfl))); have HK2 := hide hb2; have hc2 : w2.cell? ⟨b, 0, none⟩ = some (.slice (some ⟨g, 0, none⟩) m c) := HB2.out.cell; clear hb2 hg2 HB1 HT1 HK1 hc1)
    | (refine wpList_turns_put (v := .slice (some ⟨g, 0, none⟩) n c) rfl _ _ rfl rfl HB2.out.1 rfl rfl ?_; intro w3 hb3 hg3 hz3; have HR3 := hide ((RowT.cut HB2.out.2.2 (show n ≤ l.length by rw [HN.out]; omega)).kept hg3 (.inr (by simp only [Value.ownBlock]; intro e; injection e with e; exact HB2.out.ne rfl e))); have HB3 := hide (show HeapB w3 base b (.slice (some ⟨g, 0, none⟩) n c) (l.take n) from ⟨hb3, HB2.out.2.1, HR3.out⟩); have HT3 := hide (HT2.out.trans (Turned.of_grown hg3 HB2.out.2.1 HB2.out.size HB2.out.1 (.inl rfl))); have HK3 := hide (HK2.out.grown hg3 (by intro e; injection e with e; exact Blk.unlike HB2.out.1 HK2.out (by decide) e.symm)); clear hb3 hg3 HB2 HT2 HK2 hc2 HR3)
    | (refine wpList_blk_load rfl 84 _ rfl w.heap.size rfl (turnC X) (by have := HK3.out; rwa [lset_whole (by rw [turnC_len HX.out, turnC_len (by simp)])] at this) Tryd.underlying84 rfl (by rw [turnC_len HX.out]; exact size_turn) ?_))
  go_ret
  exact ⟨rfl, _, HB3.out, HT3.out⟩
end Go.Proofs.YtgjepahhbecljaaDoor

namespace Go.Proofs.YtgjepahhbecljaaDoor
open Go Go.RowKit
set_option linter.unusedVariables false
set_option linter.unusedSimpArgs false
set_option maxRecDepth 100000
set_option maxHeartbeats 8000000
theorem len_calls {v : Value} {l : List Heap.T} {w : World} {base b : Nat} (h : HeapB w base b v l) : Calls Tryd.prog 75 (v :: []).toArray w fun e w' => e = .returned (.int .i64 (l.length : Int)) ∧ w = w' := turns_len v l w base h.2.2
theorem heap_push (x : Heap.T) (v : Value) (l : List Heap.T) (w : World) (base b : Nat) (h : HeapB w base b v l) (hx : x.2.length = 32 ∧ Bytes x.2) (hm : l.length < 1000) (hI : Heap.Is Heap.tlt (Heap.fn l) l.length) :
    Calls Tryd.prog 74 #[hp b, .iface 84 (.agg (turnC x).toArray)] w fun e w' => (∃ u, e = .returned u) ∧ ∃ v' l', l'.Perm (x :: l) ∧ HeapB w' base b v' l' ∧ Heap.Is Heap.tlt (Heap.fn l') l'.length ∧ Turned base w w' := by
  have HB := hide h
  have HI := hide hI
  have HPU := hide (turns_push x v l w base b h hx (by omega))
  obtain ⟨X, HX⟩ : ∃ x', Hid (Value.iface 84 (.agg (turnC x).toArray) = x') := ⟨_, hide rfl⟩
  rw [HX.out] at HPU ⊢
  have hmeth := hide (meth_push b w)
  clear h hI
  go_enter Tryd.func74, Tryd.ntmps74
  go_wp2_with (first
    | (show wpList _ _ _ ({ dst := some 6, op := _, type := _, pos := _, after := _, guard := _ } :: _) _ _; refine wpList_inv (by kernel_rfl) _ _ _ _ rfl b rfl 133 Tryd.call133 _ hmeth.out [X] (by simp [Act.eval]) HPU.out (by rintro e w' ⟨u, h, _⟩; exact ⟨u, h⟩) ?_; rintro u w1 ⟨u1, hu1, v1, hb1, ht1⟩; have HB1 := hide hb1; have HT1 := hide ht1; have hmeth2 := hide (meth_val b w1 75 "Len" meth_len0 hb1.cell); have HL := hide (len_calls hb1); obtain ⟨n, HN⟩ : ∃ n, Hid ((l ++ [x]).length = n) := ⟨_, hide rfl⟩; rw [HN.out] at HL; obtain ⟨j, HJ⟩ : ∃ j, Hid (l.length = j) := ⟨_, hide rfl⟩; have hj1 : (n : Int) - 1 = (j : Int) := (by have h1 := HN.out; have h2 := HJ.out; rw [List.length_append, h2] at h1; simp at h1; omega); have hjb : j < 1000 := (by have h2 := HJ.out; omega); clear hu1 hb1 ht1 HPU hmeth HB)
    | (show wpList _ _ _ ({ dst := some 9, op := _, type := _, pos := _, after := _, guard := _ } :: _) _ _; refine wpList_inv (by kernel_rfl) _ _ _ _ rfl b rfl 75 Tryd.call75 v1 hmeth2.out [] (by simp) HL.out (by rintro e w' ⟨rfl, _⟩; exact ⟨_, rfl⟩) ?_; rintro u2 w2 ⟨hu2, hw2⟩; injection hu2 with hu2; subst hu2; subst hw2; clear hmeth2 HL))
  refine (heap_up v1 (l ++ [x]) w1 base b j HB1.out (by rw [List.length_append, HJ.out]; simp) (by rw [List.length_append]; simp; omega) (by rw [← HJ.out]; have := Heap.push_new HI.out x; rwa [show l.length + 1 = (l ++ [x]).length by simp] at this)).mono ?_
  rintro e w3 ⟨⟨u3, rfl⟩, l3, hp3, hb3, hi3, ht3⟩
  have HF := hide (show ∃ v' l', l'.Perm (x :: l) ∧ HeapB w3 base b v' l' ∧ Heap.Is Heap.tlt (Heap.fn l') l'.length ∧ Turned base w w3 from ⟨v1, l3, hp3.trans (List.perm_append_singleton _ _), hb3, hi3, HT1.out.trans ht3⟩)
  clear hp3 hb3 hi3 ht3 HB1 HT1 HI
  go_wp2_with fail
  exact bodyPost_end (v := .tuple #[]) (results_none rfl _ _) rfl ⟨⟨_, rfl⟩, HF.out⟩
theorem heap_pop (v : Value) (l : List Heap.T) (n : Nat) (w : World) (base b : Nat) (h : HeapB w base b v l) (hn : l.length = n + 1) (hm : l.length ≤ 1000) (hI : Heap.Is Heap.tlt (Heap.fn l) l.length) :
    Calls Tryd.prog 76 #[hp b] w fun e w' => e = .returned (.iface 84 (.agg (turnC (l.getD 0 Heap.t0)).toArray)) ∧ ∃ v' l', l.Perm (l.getD 0 Heap.t0 :: l') ∧ HeapB w' base b v' l' ∧ Heap.Is Heap.tlt (Heap.fn l') l'.length ∧ Turned base w w' := by
  have HB := hide h
  have HD := hide (Heap.pop_new hn hI)
  have hmeth := hide (meth_val b w 75 "Len" meth_len0 h.cell)
  have HL := hide (len_calls h)
  obtain ⟨N, HN⟩ : ∃ m, Hid (l.length = m) := ⟨_, hide rfl⟩
  have HS := hide (swap_calls h (show 0 < l.length by omega) (show n < l.length by omega))
  have hmeth2 := hide (meth_val b w 134 "Swap" meth_swap0 h.cell)
  have hn1 : (N : Int) - 1 = (n : Int) := by have := HN.out; omega
  rw [HN.out] at HL
  have hnb : n < 1000 := by omega
  have HNN := hide hn
  have HM := hide hm
  clear h hn hm hI
  go_enter Tryd.func76, Tryd.ntmps76
  go_wp2_with (first
    | (show wpList _ _ _ ({ dst := some 5, op := _, type := _, pos := _, after := _, guard := _ } :: _) _ _; refine wpList_inv (by kernel_rfl) _ _ _ _ rfl b rfl 75 Tryd.call75 v hmeth.out [] (by simp) HL.out (by rintro e w' ⟨rfl, _⟩; exact ⟨_, rfl⟩) ?_; rintro u2 w2 ⟨hu2, hw2⟩; injection hu2 with hu2; subst hu2; subst hw2; clear hmeth HL)
    | (show wpList _ _ _ ({ dst := some 9, op := _, type := _, pos := _, after := _, guard := _ } :: _) _ _; refine wpList_inv (by kernel_rfl) _ _ _ _ rfl b rfl 134 Tryd.call134 v hmeth2.out [.int .i64 0, .int .i64 (n : Int)] (by simp [Act.eval]) HS.out (by rintro e w' ⟨h, _⟩; exact h) ?_; rintro u w1 ⟨hu1, hb1, ht1⟩; have HB1 := hide hb1; have HT1 := hide ht1; clear hu1 hb1 ht1 HS HB hmeth2))
  refine (heap_down v (Heap.swpL l 0 n) w1 base b n HB1.out (by rw [Heap.swpL_len, HNN.out]; omega) (by rw [Heap.swpL_len]; exact HM.out) HD.out).mono ?_
  rintro e w2 ⟨⟨u2, rfl⟩, l2, hp2, hd2, hb2, hi2, ht2⟩
  obtain ⟨q1, q2, q3⟩ := Heap.pop_done HNN.out hp2 hd2 hi2
  have HQ2 := hide q2
  have HQ3 := hide q3
  have HT2 := hide (HT1.out.trans ht2)
  have hmeth3 := hide (meth_pop b w2)
  have HPO := hide (turns_pop v l2 n w2 base b hb2 (by rw [hp2.length_eq, Heap.swpL_len, HNN.out]) (by rw [hp2.length_eq, Heap.swpL_len]; exact HM.out))
  rw [q1] at HPO
  obtain ⟨X, HX⟩ : ∃ x', Hid (Value.iface 84 (.agg (turnC (l.getD 0 Heap.t0)).toArray) = x') := ⟨_, hide rfl⟩
  rw [HX.out] at HPO
  obtain ⟨FN, HFN⟩ : ∃ p : Value → Prop, p = fun x' => x' = Value.iface 84 (.agg (turnC (l.getD 0 Heap.t0)).toArray) := ⟨_, rfl⟩
  clear hp2 hd2 hb2 hi2 ht2 q1 q2 q3 HB1 HT1 HD HFN
  go_wp2_with (first
    | (show wpList _ _ _ ({ dst := some 14, op := _, type := _, pos := _, after := _, guard := _ } :: _) _ _; refine wpList_inv (by kernel_rfl) _ _ _ _ rfl b rfl 132 Tryd.call132 _ hmeth3.out [] (by simp) HPO.out (by rintro e w' ⟨rfl, _⟩; exact ⟨_, rfl⟩) ?_; rintro u w3 ⟨hu3, v3, hb3, ht3⟩; injection hu3 with hu3; subst hu3; have HB3 := hide hb3; have HT3 := hide (HT2.out.trans ht3); clear hb3 ht3 HPO hmeth3 HT2))
  go_ret
  exact ⟨by rw [HX.out]; rfl, v3, l2.take n, HQ2.out, HB3.out, HQ3.out, HT3.out⟩
end Go.Proofs.YtgjepahhbecljaaDoor
