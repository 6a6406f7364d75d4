/- Rows with their lengths: written, and taken again: plain laws. -/
import Derived.Test.YthdjgebbjogmiaaDoorJoin3
namespace Go.Proofs.YthdjgebbjogmiaaDoor
open Go Go.RowKit

def isDg (c : Int) : Prop := 48 ≤ c ∧ c ≤ 57
instance (c : Int) : Decidable (isDg c) := inferInstanceAs (Decidable (_ ∧ _))
/-- The digits' values at the beginning. -/
def dgs : List Int → List Nat
 | [] => []
 | c :: cs => if isDg c then (c - 48).toNat :: dgs cs else []
/-- The number of digits read on. -/
def dval (n : Nat) (ds : List Nat) : Nat := ds.foldl (fun n x => 10 * n + x) n
/-- size's loop: it ends behind a number that is too great. -/
def szF : Nat → Nat → List Int → Nat × Nat
 | n, d, [] => (n, d)
 | n, d, c :: cs => if isDg c ∧ n ≤ 16384 then szF (10 * n + (c - 48).toNat) (d + 1) cs else (n, d)
/-- The reference's loop: it ends behind six digits. -/
def szR : Nat → Nat → List Int → Nat × Nat
 | n, d, [] => (n, d)
 | n, d, c :: cs => if isDg c ∧ d < 6 then szR (10 * n + (c - 48).toNat) (d + 1) cs else (n, d)
def netsF (l : List (List Int)) : List Int := (l.map netF).flatten
/-- TakeNet. -/
def takeF (b : List Int) : Option (List Int × List Int) :=
 let n := (szF 0 0 b).1; let d := (szF 0 0 b).2
 if d = 0 ∨ (1 < d ∧ b.getD 0 0 = 48) ∨ 16384 < n then none
 else if b.length < d + n + 2 ∨ b.getD d 0 ≠ 58 ∨ b.getD (d + 1 + n) 0 ≠ 44 then none
 else some ((b.drop (d + 1)).take n, b.drop (d + n + 2))
def takeR (b : List Int) : Option (List Int × List Int) :=
 let n := (szR 0 0 b).1; let i := (szR 0 0 b).2
 if i = 0 ∨ b.length ≤ i ∨ b.getD i 0 ≠ 58 ∨ (b.getD 0 0 = 48 ∧ 1 < i) ∨ 16384 < n ∨ b.length < i + n + 2 ∨ b.getD (i + 1 + n) 0 ≠ 44 then none
 else some ((b.drop (i + 1)).take n, b.drop (i + n + 2))
/-- TakeNets. -/
def takesF : Nat → List Int → Option (List (List Int))
 | 0, b => if b = [] then some [] else none
 | n + 1, b => (takeF b).bind fun p => (takesF n p.2).map (p.1 :: ·)

theorem dval_cons (n x : Nat) (ds : List Nat) : dval n (x :: ds) = dval (10 * n + x) ds := rfl
theorem dval_snoc (n x : Nat) (ds : List Nat) : dval n (ds ++ [x]) = 10 * dval n ds + x := by simp [dval]
theorem dval_ge : ∀ (ds : List Nat) (n : Nat), n ≤ dval n ds
 | [], n => Nat.le_refl _
 | x :: ds, n => by rw [dval_cons]; have := dval_ge ds (10 * n + x); omega
theorem szF_small : ∀ (b : List Int) (n d : Nat), dval n (dgs b) ≤ 16384 → szF n d b = (dval n (dgs b), d + (dgs b).length)
 | [], n, d, _ => by simp [szF, dgs, dval]
 | c :: cs, n, d, h => by
  by_cases hc : isDg c
  · rw [dgs, if_pos hc, dval_cons] at h ⊢
    have h1 := dval_ge (dgs cs) (10 * n + (c - 48).toNat)
    rw [szF, if_pos ⟨hc, by omega⟩, szF_small cs _ _ h, List.length_cons]
    congr 1; omega
  · rw [szF, if_neg (fun h => hc h.1), dgs, if_neg hc]; rfl
theorem szF_great : ∀ (b : List Int) (n d : Nat), 16384 < dval n (dgs b) → 16384 < (szF n d b).1
 | [], n, d, h => by simpa [szF, dgs, dval] using h
 | c :: cs, n, d, h => by
  by_cases hc : isDg c
  · rw [dgs, if_pos hc, dval_cons] at h
    by_cases hn : n ≤ 16384
    · rw [szF, if_pos ⟨hc, hn⟩]; exact szF_great cs _ _ h
    · rw [szF, if_neg (fun h => hn h.2)]; show 16384 < n; omega
  · rw [dgs, if_neg hc] at h
    rw [szF, if_neg (fun h => hc h.1)]; exact h
theorem szR_few : ∀ (b : List Int) (n d : Nat), d + (dgs b).length ≤ 6 → szR n d b = (dval n (dgs b), d + (dgs b).length)
 | [], n, d, _ => by simp [szR, dgs, dval]
 | c :: cs, n, d, h => by
  by_cases hc : isDg c
  · rw [dgs, if_pos hc] at h ⊢
    rw [List.length_cons] at h ⊢
    rw [szR, if_pos ⟨hc, by omega⟩, szR_few cs _ _ (by omega), dval_cons]
    congr 1; omega
  · rw [szR, if_neg (fun h => hc h.1), dgs, if_neg hc]; rfl
theorem szR_many : ∀ (b : List Int) (n d : Nat), d ≤ 6 → 6 < d + (dgs b).length → (szR n d b).2 = 6
 | [], n, d, h6, h => by simp [dgs] at h; omega
 | c :: cs, n, d, h6, h => by
  by_cases hc : isDg c
  · rw [dgs, if_pos hc, List.length_cons] at h
    by_cases hd : d < 6
    · rw [szR, if_pos ⟨hc, hd⟩]; exact szR_many cs _ _ (by omega) (by omega)
    · rw [szR, if_neg (fun h => hd h.2)]; show d = 6; omega
  · rw [dgs, if_neg hc] at h; simp at h; omega
theorem dgs_get : ∀ (b : List Int) (i : Nat), i < (dgs b).length → isDg (b.getD i 0) ∧ (dgs b).getD i 0 = (b.getD i 0 - 48).toNat
 | [], i, h => by simp [dgs] at h
 | c :: cs, i, h => by
  by_cases hc : isDg c
  · rw [dgs, if_pos hc] at h ⊢
    rcases i with _ | i
    · exact ⟨hc, rfl⟩
    · exact dgs_get cs i (by simpa using h)
  · rw [dgs, if_neg hc] at h; simp at h
theorem dgs_len : ∀ b : List Int, (dgs b).length ≤ b.length
 | [] => Nat.le_refl _
 | c :: cs => by
  unfold dgs
  split
  · have := dgs_len cs; simp; omega
  · simp
theorem dval_low : ∀ (ds : List Nat) (n : Nat), n * 10 ^ ds.length ≤ dval n ds
 | [], n => by simp [dval]
 | x :: ds, n => by
  have := dval_low ds (10 * n + x)
  rw [dval_cons, List.length_cons, Nat.pow_succ]
  refine Nat.le_trans ?_ this
  rw [Nat.mul_comm (10 ^ ds.length) 10, ← Nat.mul_assoc]
  exact Nat.mul_le_mul_right _ (by omega)

/-- The program's and the reference's are one. -/
theorem takeR_eq (b : List Int) : takeR b = takeF b := by
 unfold takeR takeF
 have hl := dgs_len b
 by_cases hk : (dgs b).length ≤ 6
 · rw [szR_few b 0 0 (by omega)]
   by_cases hv : dval 0 (dgs b) ≤ 16384
   · rw [szF_small b 0 0 hv]
     simp only [Nat.zero_add]
     generalize (dgs b).length = k
     generalize dval 0 (dgs b) = v at hv
     by_cases h1 : k = 0 ∨ (1 < k ∧ b.getD 0 0 = 48) ∨ 16384 < v
     · rw [if_pos h1, if_pos (by rcases h1 with h | h | h; exact .inl h; exact .inr (.inr (.inr (.inl ⟨h.2, h.1⟩))); omega)]
     · rw [if_neg h1]
       by_cases h2 : b.length < k + v + 2 ∨ b.getD k 0 ≠ 58 ∨ b.getD (k + 1 + v) 0 ≠ 44
       · rw [if_pos h2, if_pos (by rcases h2 with h | h | h; exact .inr (.inr (.inr (.inr (.inr (.inl h))))); exact .inr (.inr (.inl h)); exact .inr (.inr (.inr (.inr (.inr (.inr h))))))]
       · rw [if_neg h2, if_neg]
         rintro (h | h | h | h | h | h | h)
         · exact h1 (.inl h)
         · exact h2 (.inl (by omega))
         · exact h2 (.inr (.inl h))
         · exact h1 (.inr (.inl ⟨h.2, h.1⟩))
         · exact h1 (.inr (.inr h))
         · exact h2 (.inl h)
         · exact h2 (.inr (.inr h))
   · have hg := szF_great b 0 0 (by omega)
     rw [if_pos (.inr (.inr (.inr (.inr (.inl (by simpa using hv))))))]
     rw [if_pos (.inr (.inr hg))]
 · have hm := szR_many b 0 0 (by omega) (by omega)
   have h6 := (dgs_get b 6 (by omega)).1
   rw [if_pos (.inr (.inr (.inl (by rw [hm]; unfold isDg at h6; omega))))]
   by_cases hv : dval 0 (dgs b) ≤ 16384
   · rw [szF_small b 0 0 hv]
     rw [if_pos]
     refine .inr (.inl ⟨by simp; omega, ?_⟩)
     obtain ⟨h0, h0'⟩ := dgs_get b 0 (by omega)
     cases hd : dgs b with
     | nil => rw [hd] at hk; simp at hk
     | cons x ds =>
      rw [hd] at hv hk h0'
      rw [dval_cons] at hv
      have h7 := dval_low ds (10 * 0 + x)
      have h8 : 10 ^ 6 ≤ 10 ^ ds.length := Nat.pow_le_pow_right (by omega) (by simp at hk; omega)
      have hx : x = 0 := by
       rcases Nat.eq_zero_or_pos x with h | h
       · exact h
       · have : 1 * 10 ^ 6 ≤ (10 * 0 + x) * 10 ^ ds.length := Nat.mul_le_mul (by omega) h8
         omega
      subst hx
      have : (0 : Nat) = (b.getD 0 0 - 48).toNat := h0'
      unfold isDg at h0
      omega
   · rw [if_pos (.inr (.inr (szF_great b 0 0 (by omega))))]

/-- Digits that bear no nought ahead are the number's own. -/
theorem dec_canon : ∀ (k : Nat) (ds : List Nat), ds.length = k → 0 < k → (∀ x ∈ ds, x < 10) → (k = 1 ∨ ds.getD 0 0 ≠ 0) → digB (dval 0 ds) = ds.map fun x => ((48 + x : Nat) : Int)
 | 0, _, _, h, _, _ => by omega
 | k + 1, ds, hl, _, hlt, hc => by
  obtain ⟨init, x, rfl⟩ : ∃ init x, ds = init ++ [x] := ⟨ds.dropLast, ds.getLast (by intro e; subst e; simp at hl), (List.dropLast_concat_getLast _).symm⟩
  have hx : x < 10 := hlt x (by simp)
  have hb : ∀ y : Nat, y < 10 → ((UInt8.ofNat (48 + y)).toNat : Int) = ((48 + y : Nat) : Int) := fun y hy => by simp [UInt8.toNat_ofNat']; omega
  rw [dval_snoc]
  by_cases hk : k = 0
  · subst hk
    have : init = [] := by simpa using hl
    subst this
    show digB (10 * 0 + x) = _
    rw [Nat.mul_zero, Nat.zero_add, digB, Lib.decDigits_one hx]
    simp only [List.map_cons, List.map_nil, List.nil_append]
    rw [hb x hx]
  · have hi : init.length = k := by simp at hl; exact hl
    have h0 : init.getD 0 0 ≠ 0 := by
     rcases hc with h | h
     · omega
     · rw [List.getD_eq_getElem?_getD, List.getElem?_append_left (by omega), ← List.getD_eq_getElem?_getD] at h; exact h
    have ih := dec_canon k init hi (by omega) (fun y hy => hlt y (by simp [hy])) (.inr h0)
    have hpos : 1 ≤ dval 0 init := by
     cases init with
     | nil => simp at hi; omega
     | cons y r =>
      rw [dval_cons]
      have := dval_ge r (10 * 0 + y)
      have h0' : y ≠ 0 := h0
      omega
    rw [digB, Lib.decDigits, dif_neg (by omega), show (10 * dval 0 init + x) / 10 = dval 0 init by omega, show (10 * dval 0 init + x) % 10 = x by omega, List.map_append, List.map_append]
    rw [digB] at ih
    rw [ih]
    simp only [List.map_cons, List.map_nil]
    rw [hb x hx]
theorem dec_digits (n : Nat) : ∃ ds : List Nat, 0 < ds.length ∧ (∀ x ∈ ds, x < 10) ∧ (ds.length = 1 ∨ ds.getD 0 0 ≠ 0) ∧ dval 0 ds = n ∧ (0 < n → ds.getD 0 0 ≠ 0) := by
 induction n using Nat.strongRecOn with
 | ind n ih =>
  by_cases h : n < 10
  · exact ⟨[n], by simp, by simp [h], .inl rfl, by simp [dval], fun h => by simp; omega⟩
  · obtain ⟨ds, h1, h2, h3, h4, h5⟩ := ih (n / 10) (by omega)
    have h0 : (ds ++ [n % 10]).getD 0 0 ≠ 0 := by
     rw [List.getD_eq_getElem?_getD, List.getElem?_append_left h1, ← List.getD_eq_getElem?_getD]
     exact h5 (by omega)
    refine ⟨ds ++ [n % 10], by simp, fun x hx => ?_, .inr h0, by rw [dval_snoc, h4]; omega, fun _ => h0⟩
    rcases List.mem_append.1 hx with hx | hx
    · exact h2 x hx
    · simp at hx; omega
theorem dgs_map : ∀ (ds : List Nat) (r : List Int), (∀ x ∈ ds, x < 10) → dgs (ds.map (fun x => ((48 + x : Nat) : Int)) ++ 58 :: r) = ds
 | [], r, _ => by rw [List.map_nil, List.nil_append, dgs, if_neg (by unfold isDg; omega)]
 | x :: ds, r, h => by
  have hx : x < 10 := h x (List.mem_cons_self ..)
  rw [List.map_cons, List.cons_append, dgs, if_pos (by unfold isDg; omega), dgs_map ds r fun y hy => h y (List.mem_cons_of_mem _ hy)]
  congr 1
  omega
/-- A row that was written is taken. -/
theorem take_net (x r : List Int) (h : x.length ≤ 16384) : takeF (netF x ++ r) = some (x, r) := by
 obtain ⟨ds, h1, h2, h3, h4, _⟩ := dec_digits x.length
 have hdig := dec_canon ds.length ds rfl h1 h2 h3
 rw [h4] at hdig
 have hb : netF x ++ r = ds.map (fun x => ((48 + x : Nat) : Int)) ++ 58 :: (x ++ 44 :: r) := by
  rw [netF, hdig]; simp
 have hd : dgs (netF x ++ r) = ds := by rw [hb, dgs_map ds _ h2]
 have hs := szF_small (netF x ++ r) 0 0 (by rw [hd, h4]; exact h)
 rw [hd, h4, Nat.zero_add] at hs
 have hl : (netF x ++ r).length = ds.length + x.length + 2 + r.length := by rw [hb]; simp; omega
 have hg0 : (netF x ++ r).getD 0 0 = ((48 + ds.getD 0 0 : Nat) : Int) := by
  rw [hb]
  cases ds with
  | nil => simp at h1
  | cons y ds => rfl
 have hgd : (netF x ++ r).getD ds.length 0 = 58 := by
  rw [hb, List.getD_eq_getElem?_getD, List.getElem?_append_right (by simp)]
  simp
 have hge : (netF x ++ r).getD (ds.length + 1 + x.length) 0 = 44 := by
  rw [hb, List.getD_eq_getElem?_getD, List.getElem?_append_right (by simp; omega)]
  rw [show ds.length + 1 + x.length - (ds.map fun x => ((48 + x : Nat) : Int)).length = x.length + 1 by simp; omega, List.getElem?_cons_succ, List.getElem?_append_right (Nat.le_refl _), Nat.sub_self]
  rfl
 unfold takeF
 rw [hs]
 simp only
 rw [if_neg, if_neg]
 · have e1 : (netF x ++ r).drop (ds.length + 1) = x ++ 44 :: r := by
    rw [hb, show ds.length + 1 = (ds.map fun x => ((48 + x : Nat) : Int)).length + 1 by simp, List.drop_length_add_append]
    rfl
   have e2 : (netF x ++ r).drop (ds.length + x.length + 2) = r := by
    rw [show ds.length + x.length + 2 = (ds.length + 1) + (x.length + 1) by omega, ← List.drop_drop, e1, List.drop_length_add_append]
    rfl
   rw [e1, e2, List.take_left' rfl]
 · rintro (h | h | h)
   · omega
   · exact h hgd
   · exact h hge
 · rintro (h | h | h)
   · omega
   · obtain ⟨ha, hb'⟩ := h
     rw [hg0] at hb'
     rcases h3 with h3 | h3
     · omega
     · exact h3 (by omega)
   · omega
/-- What is taken was written so. -/
theorem take_sound (b x r : List Int) (h : takeF b = some (x, r)) : b = netF x ++ r ∧ x.length ≤ 16384 := by
 unfold takeF at h
 simp only at h
 split at h
 · cases h
 rename_i h1
 split at h
 · cases h
 rename_i h2
 injection h with h
 injection h with hx hr
 have hv : dval 0 (dgs b) ≤ 16384 := by
  rcases Nat.lt_or_ge 16384 (dval 0 (dgs b)) with h | h
  · exact absurd (.inr (.inr (szF_great b 0 0 h))) h1
  · exact h
 rw [szF_small b 0 0 hv] at h1 h2 hx hr
 simp only [Nat.zero_add] at h1 h2 hx hr
 have hlen : ¬ b.length < (dgs b).length + dval 0 (dgs b) + 2 := fun h => h2 (.inl h)
 have h58 : b.getD (dgs b).length 0 = 58 := Classical.byContradiction fun h => h2 (.inr (.inl h))
 have h44 : b.getD ((dgs b).length + 1 + dval 0 (dgs b)) 0 = 44 := Classical.byContradiction fun h => h2 (.inr (.inr h))
 have hk0 : 0 < (dgs b).length := by
  rcases Nat.eq_zero_or_pos (dgs b).length with h | h
  · exact absurd (.inl h) h1
  · exact h
 have hlt : ∀ y ∈ dgs b, y < 10 := fun y hy => by
  obtain ⟨i, hi, rfl⟩ := List.mem_iff_getElem.1 hy
  obtain ⟨g1, g2⟩ := dgs_get b i hi
  rw [List.getD_eq_getElem?_getD, List.getElem?_eq_getElem hi] at g2
  unfold isDg at g1
  show (dgs b)[i] < 10
  have : (dgs b)[i] = (b.getD i 0 - 48).toNat := g2
  omega
 have hcan : (dgs b).length = 1 ∨ (dgs b).getD 0 0 ≠ 0 := by
  by_cases h : (dgs b).length = 1
  · exact .inl h
  · refine .inr fun h0 => h1 (.inr (.inl ⟨by omega, ?_⟩))
    obtain ⟨g1, g2⟩ := dgs_get b 0 hk0
    rw [h0] at g2
    unfold isDg at g1
    omega
 have hdig := dec_canon _ (dgs b) rfl hk0 hlt hcan
 generalize hkk : (dgs b).length = k at *
 generalize hvv : dval 0 (dgs b) = v at *
 have hxl : x.length = v := by rw [← hx, List.length_take, List.length_drop]; omega
 refine ⟨?_, by omega⟩
 have hpre : b.take k = digB v := by
  rw [hdig]
  refine List.ext_getElem (by rw [List.length_take, List.length_map]; omega) fun i i1 i2 => ?_
  have hi : i < (dgs b).length := by simp at i1; omega
  obtain ⟨g1, g2⟩ := dgs_get b i hi
  rw [List.getD_eq_getElem?_getD, List.getElem?_eq_getElem hi] at g2
  have hib : i < b.length := by omega
  rw [List.getElem_take, List.getElem_map]
  have g2' : (dgs b)[i] = (b.getD i 0 - 48).toNat := g2
  rw [g2']
  unfold isDg at g1
  rw [getD_el' b i hib] at g1 ⊢
  omega
 have hd1 : b.drop k = 58 :: b.drop (k + 1) := by
  have hkb : k < b.length := by omega
  rw [List.drop_eq_getElem_cons hkb, ← getD_el' b k hkb, h58]
 have hd2 : b.drop (k + 1) = x ++ b.drop (k + 1 + v) := by
  have := (List.take_append_drop v (b.drop (k + 1))).symm
  rw [List.drop_drop] at this
  rw [← hx]
  exact this
 have hd3 : b.drop (k + 1 + v) = 44 :: r := by
  have hkb : k + 1 + v < b.length := by omega
  rw [List.drop_eq_getElem_cons hkb, ← getD_el' b _ hkb, h44, ← hr]
  congr 2
  omega
 conv => lhs; rw [← List.take_append_drop k b, hpre, hd1, hd2, hd3]
 rw [netF, hxl]
 simp
theorem take_nil : takeF [] = none := by decide
theorem netF_pos (x : List Int) : 0 < (netF x).length := by rw [netF]; simp; omega
theorem takes_nets : ∀ (l : List (List Int)), (∀ x ∈ l, x.length ≤ 16384) → takesF l.length (netsF l) = some l
 | [], _ => rfl
 | x :: l, h => by
  have e : netsF (x :: l) = netF x ++ netsF l := by simp [netsF]
  rw [e, List.length_cons, takesF, take_net x _ (h x (List.mem_cons_self ..)), Option.bind_some]
  simp only
  rw [takes_nets l fun y hy => h y (List.mem_cons_of_mem _ hy)]
  rfl
theorem takes_sound : ∀ (n : Nat) (b : List Int) (l : List (List Int)), takesF n b = some l → b = netsF l ∧ l.length = n
 | 0, b, l, h => by
  unfold takesF at h
  split at h
  · rename_i e; cases h; exact ⟨e, rfl⟩
  · cases h
 | n + 1, b, l, h => by
  unfold takesF at h
  obtain ⟨p, hp, h2⟩ := Option.bind_eq_some_iff.1 h
  obtain ⟨l', h3, rfl⟩ := Option.map_eq_some_iff.1 h2
  obtain ⟨g1, g2⟩ := takes_sound n _ _ h3
  obtain ⟨x, r⟩ := p
  have h4 := (take_sound b x r hp).1
  refine ⟨?_, by simp [g2]⟩
  rw [h4]
  simp only at g1
  rw [g1]
  simp [netsF]
theorem nets_inj : ∀ (l m : List (List Int)), (∀ x ∈ l, x.length ≤ 16384) → (∀ x ∈ m, x.length ≤ 16384) → netsF l = netsF m → l = m
 | [], [], _, _, _ => rfl
 | [], y :: m, _, _, h => by
  have e : netsF (y :: m) = netF y ++ netsF m := by simp [netsF]
  rw [e] at h
  have := congrArg List.length h
  have hp := netF_pos y
  rw [List.length_append] at this
  have e0 : (netsF []).length = 0 := rfl
  omega
 | x :: l, [], _, _, h => by
  have e : netsF (x :: l) = netF x ++ netsF l := by simp [netsF]
  rw [e] at h
  have := congrArg List.length h
  have hp := netF_pos x
  rw [List.length_append] at this
  have e0 : (netsF []).length = 0 := rfl
  omega
 | x :: l, y :: m, hl, hm, h => by
  have e1 : netsF (x :: l) = netF x ++ netsF l := by simp [netsF]
  have e2 : netsF (y :: m) = netF y ++ netsF m := by simp [netsF]
  have h1 := take_net x (netsF l) (hl x (List.mem_cons_self ..))
  rw [← e1, h, e2, take_net y (netsF m) (hm y (List.mem_cons_self ..))] at h1
  injection h1 with h1
  injection h1 with h1 h2
  rw [h1, nets_inj l m (fun z hz => hl z (List.mem_cons_of_mem _ hz)) (fun z hz => hm z (List.mem_cons_of_mem _ hz)) h2.symm]
/-- Cut anywhere they are none. -/
theorem takes_cut (l : List (List Int)) (hl : ∀ x ∈ l, x.length ≤ 16384) (m : Nat) (hm : m < (netsF l).length) : takesF l.length ((netsF l).take m) = none := by
 cases h : takesF l.length ((netsF l).take m) with
 | none => rfl
 | some l' =>
  exfalso
  obtain ⟨g1, g2⟩ := takes_sound _ _ _ h
  have key : ∀ (l l' : List (List Int)) (r : List Int), (∀ x ∈ l, x.length ≤ 16384) → l'.length = l.length → netsF l = netsF l' ++ r → (∀ x ∈ l', x.length ≤ 16384) → r = [] := by
   intro l
   induction l with
   | nil =>
    intro l' r _ hlen he _
    have : l' = [] := List.eq_nil_of_length_eq_zero hlen
    subst this
    simpa [netsF] using he.symm
   | cons x l ih =>
    intro l' r hl hlen he hl'
    cases l' with
    | nil => simp at hlen
    | cons y l' =>
     have e1 : netsF (x :: l) = netF x ++ netsF l := by simp [netsF]
     have e2 : netsF (y :: l') ++ r = netF y ++ (netsF l' ++ r) := by simp [netsF]
     rw [e1, e2] at he
     have h1 := take_net x (netsF l) (hl x (List.mem_cons_self ..))
     rw [he, take_net y _ (hl' y (List.mem_cons_self ..))] at h1
     injection h1 with h1
     injection h1 with h1 h2
     exact ih l' r (fun z hz => hl z (List.mem_cons_of_mem _ hz)) (by simpa using hlen) h2.symm (fun z hz => hl' z (List.mem_cons_of_mem _ hz))
  have hs : ∀ (n : Nat) (b : List Int) (l : List (List Int)), takesF n b = some l → ∀ x ∈ l, x.length ≤ 16384 := by
   intro n
   induction n with
   | zero =>
    intro b l h x hx
    unfold takesF at h
    split at h
    · cases h; cases hx
    · cases h
   | succ n ih =>
    intro b l h x hx
    unfold takesF at h
    obtain ⟨p, hp, h2⟩ := Option.bind_eq_some_iff.1 h
    obtain ⟨l', h3, rfl⟩ := Option.map_eq_some_iff.1 h2
    obtain ⟨y, r⟩ := p
    rcases List.mem_cons.1 hx with rfl | hx
    · exact (take_sound b _ r hp).2
    · exact ih _ _ h3 x hx
  have := key l l' ((netsF l).drop m) hl g2 (by rw [← g1, List.take_append_drop]) (hs _ _ _ h)
  have := congrArg List.length this
  simp at this; omega
end Go.Proofs.YthdjgebbjogmiaaDoor
