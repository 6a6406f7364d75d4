/- Taking a read of a drawn region by hand, the slot named.
Lists of rows of bytes: reading them, and lists of the call's own. No condition.
code.Net: a row with its length ahead. Condition: at most 2^46 bytes.
Rows with their lengths: written, and taken again: plain laws. -/
import Derived.Test.YthdjgebbjogmiaaDoorJoin1
import Derived.Deep.RegionHeld3
import Derived.Test.YthdjgebbjogmiaaDoorJoin2
import Derived.Test.YthdjgebbjogmiaaDoorJoin3
set_option linter.unusedVariables false
set_option linter.unusedSimpArgs false
namespace Go.Proofs.YthdjgebbjogmiaaDoor
open Go Go.RowKit
set_option maxRecDepth 100000

theorem take_e {P : Program} {md : Region.Mode} {ops : Array Oper} {Q : Exit → Act → World → Prop} {S : World → Prop} (d : Nat) {i : Nat} {oi : Oper} {v : Value} {fuel : Nat} {listed : Array Bool} {a : Act} {w : World} (hi : ops[i]? = some oi) (hd : oi.dst = some d)
 (hy : YieldsIf P ops S oi v a) (hS : S w) (h : wpAnyH P md ops Q S fuel (listed.setIfInBounds i true) (a.put (some d) v) w)
 (hs : Region.noSelect ops = true := by kernel_rfl) (hf : Region.free md ops listed i = true := by kernel_rfl) (hr : (Region.ready md ops listed).contains i = true := by kernel_rfl)
 (hQ : ∀ c a w, Q (.panic c) (a.put oi.dst v) w → Q (.panic c) a w := by exact fun _ _ _ h => h) : wpAnyH P md ops Q S (fuel + 1) listed a w :=
 wpAnyH_take hi hs hf hr hQ hy hS (by rw [hd]; exact h)

end Go.Proofs.YthdjgebbjogmiaaDoor

namespace Go.Proofs.YthdjgebbjogmiaaDoor
open Go Go.RowKit
set_option maxRecDepth 100000

theorem el_brows : ElemOf Tryd.prog 73 26 1 24 := elem_of Tryd.underlying73 (z := .slice none 0 0) (by kernel_rfl) rfl (by decide) (by decide)

/-- A slice of slices of bytes. -/
def RowsB (w : World) (B : Nat) (v : Value) (rows : List (List Int)) : Prop :=
 ∃ vs : List Value, Rd w B 1 v rows.length vs ∧ vs.length = rows.length ∧ ∀ i (hi : i < rows.length), ∃ u, vs[i]? = some u ∧ Bs w B u rows[i]
section
variable {w w' : World} {B B' base : Nat} {v v' : Value} {rows : List (List Int)}
theorem RowsB.open_ (h : RowsB w B v rows) :
 ∃ (A : Option Addr) (c : Nat), v = .slice A rows.length c ∧ rows.length ≤ c ∧ c ≤ maxLen ∧
 (0 < rows.length → ∃ b o, A = some ⟨b, o, none⟩ ∧ b < B ∧ ∀ j (hj : j < rows.length), ∃ u, w.cell? ⟨b, o + j, none⟩ = some u ∧ Bs w B u rows[j]) := by
 obtain ⟨vs, ⟨A, c, rfl, h1, h2, h4, h3⟩, hl, hr⟩ := h
 refine ⟨A, c, rfl, h1, h2, fun hp => ?_⟩
 obtain ⟨b, o, rfl, hb, hc⟩ := h3 hp
 refine ⟨b, o, rfl, hb, fun j hj => ?_⟩
 obtain ⟨u, hu, hi⟩ := hr j hj
 exact ⟨u, hc j u hu, hi⟩
theorem RowsB.below (h : RowsB w B v rows) (hb : Below B' w w') (hB : B ≤ B') : RowsB w' B v rows := by
 obtain ⟨vs, hv, hl, hr⟩ := h
 refine ⟨vs, hv.belowM hb hB, hl, fun i hi => ?_⟩
 obtain ⟨u, hu, hx⟩ := hr i hi
 exact ⟨u, hu, hx.below hb hB⟩
theorem RowsB.more (h : RowsB w B v rows) (hB : B ≤ B') : RowsB w B' v rows := by
 obtain ⟨vs, hv, hl, hr⟩ := h
 refine ⟨vs, hv.more hB, hl, fun i hi => ?_⟩
 obtain ⟨u, hu, hx⟩ := hr i hi
 exact ⟨u, hu, hx.more hB⟩
theorem RowsB.nil_ (w : World) (B : Nat) : RowsB w B (.slice none 0 0) [] := ⟨[], Rd.nil_ _ _ _, rfl, fun i hi => absurd hi (by simp)⟩

/-- An element of such a list: it lies below the call's own, or is a row of its own. -/
def ElB (w : World) (base : Nat) (u : Value) (xs : List Int) : Prop := Bs w base u xs ∨ RowB w base u xs
theorem ElB.reads {u : Value} {xs : List Int} (h : ElB w base u xs) (hb : base ≤ w.heap.size) : Bs w w.heap.size u xs := by
 rcases h with h | h
 · exact h.more hb
 · exact h.reads
theorem ElB.one {u : Value} {xs : List Int} (h : ElB w base u xs) : u.oneCell' = true := by
 rcases h with h | h
 · obtain ⟨A, c, rfl, _⟩ := h.open_; rfl
 · obtain ⟨A, c, rfl⟩ := h.shape; rfl
theorem ElB.keptB {u : Value} {xs : List Int} (h : ElB w base u xs) (hb : Below w.heap.size w w') (hB : base ≤ w.heap.size) : ElB w' base u xs := by
 rcases h with h | h
 · exact .inl (h.below hb hB)
 · exact .inr (h.keptB hb)
/-- A list of rows of bytes of the call's own. -/
def OwnRows (w : World) (base : Nat) (v : Value) (rows : List (List Int)) : Prop :=
 ∃ vs : List Value, w.ownsRow base 26 1 v rows.length vs ∧ ∀ i (hi : i < rows.length), ∃ u, vs[i]? = some u ∧ ElB w base u rows[i]
theorem OwnRows.nil_ (w : World) (base : Nat) : OwnRows w base (.slice none 0 0) [] := ⟨[], World.ownsRow_nil _ _ _ _, fun i hi => absurd hi (by simp)⟩
theorem OwnRows.keptB (h : OwnRows w base v rows) (hb : Below w.heap.size w w') (hB : base ≤ w.heap.size) : OwnRows w' base v rows := by
 obtain ⟨vs, h1, h2⟩ := h
 refine ⟨vs, own_keptB h1 hb, fun i hi => ?_⟩
 obtain ⟨u, hu, hx⟩ := h2 i hi
 exact ⟨u, hu, hx.keptB hb hB⟩
theorem OwnRows.reads (h : OwnRows w base v rows) (hB : base ≤ w.heap.size) : RowsB w w.heap.size v rows := by
 obtain ⟨vs, h1, h2⟩ := h
 refine ⟨vs, Rd.of_own h1, by have := h1.1; omega, fun i hi => ?_⟩
 obtain ⟨u, hu, hx⟩ := h2 i hi
 exact ⟨u, hu, hx.reads hB⟩
theorem rowB_grown {u : Value} {xs : List Int} {n base' : Nat} {vs : List Value} (hx : RowB w base' u xs) (h : w.ownsRow base 26 1 v n vs) (hg : w.grownBy w' v.ownBlock) : RowB w' base' u xs := by
 refine hx.kept hg ?_
 rcases hx with ⟨rfl, rfl⟩ | ⟨g, cap, cur, f, rfl, _, hb, _⟩
 · exact .inl rfl
 · refine .inr fun e => ?_
   rcases h.2 with ⟨rfl, _⟩ | ⟨g', cap', cur', rfl, _, hh, _⟩
   · cases e
   · simp [Value.ownBlock] at e
     subst e
     unfold BlkF at hb
     rw [hb] at hh
     injection hh with hh
     injection hh with _ ht _
     exact absurd ht (by decide)
theorem elB_grown {u : Value} {xs : List Int} {n : Nat} {vs : List Value} (hx : ElB w base u xs) (h : w.ownsRow base 26 1 v n vs) (hg : w.grownBy w' v.ownBlock) (hB : base ≤ w.heap.size) : ElB w' base u xs := by
 rcases hx with hx | hx
 · exact .inl (hx.below ((Below.refl base w).grown hg hB (own_base h)) (Nat.le_refl _))
 · exact .inr (rowB_grown hx h hg)
theorem OwnRows.push {vs : List Value} (h : w.ownsRow base 26 1 v rows.length vs) (h2 : ∀ i (hi : i < rows.length), ∃ u, vs[i]? = some u ∧ ElB w base u rows[i]) (hB : base ≤ w.heap.size) {u : Value} {r : List Int} (hu : ElB w base u r)
 (h' : w'.ownsRow base 26 1 v' (rows.length + 1) (vs ++ [u])) (hg : w.grownBy w' v.ownBlock) : OwnRows w' base v' (rows ++ [r]) := by
 have hl : vs.length = rows.length := by have := h.1; omega
 refine ⟨vs ++ [u], by simpa using h', fun i hi => ?_⟩
 rcases Nat.lt_or_ge i rows.length with h3 | h3
 · obtain ⟨u', hu', hx⟩ := h2 i h3
   refine ⟨u', by rw [List.getElem?_append_left (by omega)]; exact hu', ?_⟩
   rw [List.getElem_append_left h3]
   exact elB_grown hx h hg hB
 · have : i = rows.length := by simp at hi; omega
   subst this
   refine ⟨u, by rw [← hl]; simp, ?_⟩
   simpa using elB_grown hu h hg hB
end

/-- 'l = append(l, r)': the world behind the one-cell block of r. -/
theorem wpList_append_row {ops : Array Oper} {rest : List Oper} {o : Oper} {a : Act} {w : World} {Q : Exit → Act → World → Prop} (hgd : o.guard = none) (s x : Operand) (ho : o.op = .call { callee := .builtin .append, args := #[s, x], argTypes := #[73, 73] })
 (base : Nat) (v : Value) (rows : List (List Int)) (hs : a.eval s = v) (hown : OwnRows w base v rows) (hB : base ≤ w.heap.size) (u : Value) (r : List Int) (hu : ElB w base u r)
 (hx : a.eval x = .slice (some ⟨w.heap.size, 0, none⟩) 1 1) (hn : rows.length ≤ 1000000)
 (h : ∀ v' w', OwnRows w' base v' (rows ++ [r]) → Below base w w' → (∀ (b : Nat) (z : Value) (ys : List Int), RowB w b z ys → RowB w' b z ys) → wpList Tryd.prog ops Q rest (a.put o.dst v') w') : wpList Tryd.prog ops Q (o :: rest) a (w.alloc (.cells #[u] 26)) := by
 have hba := (Below.refl w.heap.size w).alloc (Nat.le_refl _) (.cells #[u] 26)
 have hown' := hown.keptB hba hB
 have hz := hba.size
 obtain ⟨vs, h1, h2⟩ := hown'
 refine wpList_append_rd _ hgd s x _ ho base _ _ _ el_brows v rows.length vs hs h1 (w.heap.size + 1) _ 1 [u] hx (Rd.one w 26 u) (fun z hz => by simp at hz; subst hz; exact hu.one) (by omega) (by omega) ?_
 intro v' w' ho' hg _
 exact h v' w' (OwnRows.push h1 h2 (by omega) (hu.keptB hba hB) ho' hg) ((hba.mono hB).grown hg (by omega) (own_base h1)) fun b z ys hz' => rowB_grown (hz'.keptB hba) h1 hg
end Go.Proofs.YthdjgebbjogmiaaDoor

namespace Go.Proofs.YthdjgebbjogmiaaDoor
open Go Go.RowKit
set_option maxRecDepth 100000

def netF (xs : List Int) : List Int := digB xs.length ++ [58] ++ xs ++ [44]
theorem netF_bytes {xs : List Int} (h : Bytes xs) : Bytes (netF xs) := by
 refine (((digB_bytes _).app ?_).app h).app ?_ <;> (intro x hx; simp at hx; omega)

theorem digits_bound (n : Nat) (hn : n ≤ 9223372036854775807) : (digB n).length ≤ 19 := by
 rw [digB, List.length_map, Lib.decDigits_length]
 rcases Nat.lt_or_ge (Lib.nDigits n) 20 with h | h
 · omega
 · exfalso
   obtain ⟨k, hk⟩ : ∃ k, Lib.nDigits n = k + 20 := ⟨Lib.nDigits n - 20, by omega⟩
   have h1 : ∀ u m, Lib.nDigits u = m + 1 → 10 ^ m ≤ u ∨ m = 0 := by
    intro u
    induction u using Nat.strongRecOn with
    | ind u ih =>
     intro m hm
     by_cases hu : u < 10
     · rw [Lib.nDigits_small hu] at hm; right; omega
     · rw [Lib.nDigits_big hu] at hm
       rcases m with _ | m
       · right; rfl
       · left
         have := ih (u / 10) (by omega) m (by omega)
         have h10 : 1 ≤ u / 10 := by omega
         have hp : 10 ^ m ≤ u / 10 := by
          rcases this with h | h
          · exact h
          · subst h; simpa using h10
         have : 10 ^ (m + 1) = 10 ^ m * 10 := Nat.pow_succ _ _
         omega
   rcases h1 n (k + 19) (by omega) with h | h
   · have : 10 ^ 19 ≤ 10 ^ (k + 19) := Nat.pow_le_pow_right (by decide) (by omega)
     have : (10 : Nat) ^ 19 = 10000000000000000000 := by decide
     omega
   · omega

set_option maxHeartbeats 1000000 in
theorem Net_any (v : Value) (xs : List Int) (w : World) (hv : Bs w w.heap.size v xs) (hb : Bytes xs) (hn : xs.length ≤ 70368744177664) (ht : Tab w w.heap.size) :
 Calls Tryd.prog 61 #[v] w fun e w' => ∃ v', e = .returned v' ∧ RowB w' w.heap.size v' (netF xs) ∧ Below w.heap.size w w' := by
 have HV := hide hv
 have HBX := hide hb
 have HT := hide ht
 obtain ⟨A, c, rfl, h1, h2, h3⟩ := hv.open_
 unfold maxLen at h2
 obtain ⟨n, HN⟩ : ∃ n, Hid (xs.length = n) := ⟨_, hide rfl⟩
 have HNF := hide (show netF xs = digB n ++ [58] ++ xs ++ [44] by rw [netF, HN.out])
 rw [HN.out] at h1 hn HV
 rw [HN.out]
 have HDL := hide (digits_bound n (by omega))
 have HDB := hide (digB_bytes n)
 obtain ⟨dd, HDD⟩ : ∃ d, Hid (digB n = d) := ⟨_, hide rfl⟩
 rw [HDD.out] at HNF HDL HDB
 clear hv hb h3 ht
 go_enter Tryd.func61, Tryd.ntmps61
 go_wp2_with fail
 refine (itoa_any n w w.heap.size HT.out (by omega)).mono ?_
 rintro e w1 ⟨s, rfl, hs, hb1⟩
 rw [HDD.out] at hs
 have hsl : s.size ≤ 19 := by rw [← strB_len, hs]; exact HDL.out
 have HS := hide hs
 have HB1 := hide hb1
 have hz1 := hb1.size
 clear hs hb1
 go_wp2_with (first
  | (refine wpList_to_bytes rfl _ rfl s rfl (by unfold maxLen; omega) ?_; intro v7 w2 ho7 hb2; have HO7 := hide ho7; have HB2 := hide hb2; have hz2 := hb2.size; clear ho7 hb2)
  | (refine wpList_lit rfl _ _ rfl [58] rfl (by omega) (by omega) rfl ?_; intro g3 w3 bk3 hg3 hb3; have HL3 := hide ((RowB.of_blk (base := 0) bk3 (by omega) (show Bytes [58] from fun x hx => by simp at hx; omega) (by decide)).reads); have HO7' := hide ((HO7.out.keptB hb3).more hz1); rw [HS.out] at HO7'; have HB3 := hide ((HB1.out.trans (HB2.out.mono hz1)).trans (hb3.mono (by omega))); have hz3 := hb3.size; clear bk3 hg3 hb3 HO7)
  | (at_builtin; refine wpList_append_B rfl _ _ rfl w.heap.size _ _ rfl HO7'.out _ _ [58] rfl HL3.out (by intro x hx; simp at hx; omega) (by have := HDL.out; simp; omega) (by omega) ?_; intro v9 w4 ho9 hg4; have hz4 := hg4.size; have HB4 := hide (HB3.out.grown hg4 (by omega) (fun k hk => (HO7'.out.base_ k hk).1)); have HO9 := hide ho9; have HV4 := hide (HV.out.below HB4.out (Nat.le_refl _)); clear ho9 hg4 HB3 HO7' HL3)
  | (at_builtin; refine wpList_append_B rfl _ _ rfl w.heap.size _ _ rfl HO9.out _ _ xs rfl HV4.out HBX.out (by have := HDL.out; simp [HN.out]; omega) (by omega) ?_; intro v12 w5 ho12 hg5; have hz5 := hg5.size; have HB5 := hide (HB4.out.grown hg5 (by omega) (fun k hk => (HO9.out.base_ k hk).1)); have HO12 := hide ho12; clear ho12 hg5 HB4 HO9 HV4)
  | (refine wpList_lit rfl _ _ rfl [44] rfl (by omega) (by omega) rfl ?_; intro g6 w6 bk6 hg6 hb6; have HL6 := hide ((RowB.of_blk (base := 0) bk6 (by omega) (show Bytes [44] from fun x hx => by simp at hx; omega) (by decide)).reads); have HO13 := hide (HO12.out.keptB hb6); have HB6 := hide (HB5.out.trans (hb6.mono (by omega))); have hz6 := hb6.size; clear bk6 hg6 hb6 HO12 HB5)
  | (at_builtin; refine wpList_append_B rfl _ _ rfl w.heap.size _ _ rfl HO13.out _ _ [44] rfl HL6.out (by intro x hx; simp at hx; omega) (by have := HDL.out; simp [HN.out]; omega) (by omega) ?_; intro v15 w7 ho15 hg7; have HB7 := hide (HB6.out.grown hg7 (by omega) (fun k hk => (HO13.out.base_ k hk).1)); have HO15 := hide ho15; clear ho15 hg7 HB6 HO13 HL6))
 go_ret
 exact ⟨_, rfl, by rw [HNF.out]; exact HO15.out, HB7.out⟩
end Go.Proofs.YthdjgebbjogmiaaDoor

namespace Go.Proofs.YthdjgebbjogmiaaDoor
open Go Go.RowKit
set_option maxRecDepth 100000

def isDg (c : Int) : Prop := 48 ≤ c ∧ c ≤ 57
instance (c : Int) : Decidable (isDg c) := inferInstanceAs (Decidable (_ ∧ _))
/-- The digits' values at the beginning. -/
def dgs : List Int → List Nat
 | [] => []
 | c :: cs => if isDg c then (c - 48).toNat :: dgs cs else []
/-- The number of digits read on. -/
def dval (n : Nat) (ds : List Nat) : Nat := ds.foldl (fun n x => 10 * n + x) n
/-- size's loop: it ends behind a number that is too great. -/
def szF : Nat → Nat → List Int → Nat × Nat
 | n, d, [] => (n, d)
 | n, d, c :: cs => if isDg c ∧ n ≤ 16384 then szF (10 * n + (c - 48).toNat) (d + 1) cs else (n, d)
def netsF (l : List (List Int)) : List Int := (l.map netF).flatten
/-- TakeNet. -/
def takeF (b : List Int) : Option (List Int × List Int) :=
 let n := (szF 0 0 b).1; let d := (szF 0 0 b).2
 if d = 0 ∨ (1 < d ∧ b.getD 0 0 = 48) ∨ 16384 < n then none
 else if b.length < d + n + 2 ∨ b.getD d 0 ≠ 58 ∨ b.getD (d + 1 + n) 0 ≠ 44 then none
 else some ((b.drop (d + 1)).take n, b.drop (d + n + 2))
/-- TakeNets. -/
def takesF : Nat → List Int → Option (List (List Int))
 | 0, b => if b = [] then some [] else none
 | n + 1, b => (takeF b).bind fun p => (takesF n p.2).map (p.1 :: ·)

theorem dval_cons (n x : Nat) (ds : List Nat) : dval n (x :: ds) = dval (10 * n + x) ds := rfl
theorem dval_snoc (n x : Nat) (ds : List Nat) : dval n (ds ++ [x]) = 10 * dval n ds + x := by simp [dval]
theorem dval_ge : ∀ (ds : List Nat) (n : Nat), n ≤ dval n ds
 | [], n => Nat.le_refl _
 | x :: ds, n => by rw [dval_cons]; have := dval_ge ds (10 * n + x); omega
theorem szF_small : ∀ (b : List Int) (n d : Nat), dval n (dgs b) ≤ 16384 → szF n d b = (dval n (dgs b), d + (dgs b).length)
 | [], n, d, _ => by simp [szF, dgs, dval]
 | c :: cs, n, d, h => by
  by_cases hc : isDg c
  · rw [dgs, if_pos hc, dval_cons] at h ⊢
    have h1 := dval_ge (dgs cs) (10 * n + (c - 48).toNat)
    rw [szF, if_pos ⟨hc, by omega⟩, szF_small cs _ _ h, List.length_cons]
    congr 1; omega
  · rw [szF, if_neg (fun h => hc h.1), dgs, if_neg hc]; rfl
theorem szF_great : ∀ (b : List Int) (n d : Nat), 16384 < dval n (dgs b) → 16384 < (szF n d b).1
 | [], n, d, h => by simpa [szF, dgs, dval] using h
 | c :: cs, n, d, h => by
  by_cases hc : isDg c
  · rw [dgs, if_pos hc, dval_cons] at h
    by_cases hn : n ≤ 16384
    · rw [szF, if_pos ⟨hc, hn⟩]; exact szF_great cs _ _ h
    · rw [szF, if_neg (fun h => hn h.2)]; show 16384 < n; omega
  · rw [dgs, if_neg hc] at h
    rw [szF, if_neg (fun h => hc h.1)]; exact h
theorem dgs_get : ∀ (b : List Int) (i : Nat), i < (dgs b).length → isDg (b.getD i 0) ∧ (dgs b).getD i 0 = (b.getD i 0 - 48).toNat
 | [], i, h => by simp [dgs] at h
 | c :: cs, i, h => by
  by_cases hc : isDg c
  · rw [dgs, if_pos hc] at h ⊢
    rcases i with _ | i
    · exact ⟨hc, rfl⟩
    · exact dgs_get cs i (by simpa using h)
  · rw [dgs, if_neg hc] at h; simp at h
/-- Digits that bear no nought ahead are the number's own. -/
theorem dec_canon : ∀ (k : Nat) (ds : List Nat), ds.length = k → 0 < k → (∀ x ∈ ds, x < 10) → (k = 1 ∨ ds.getD 0 0 ≠ 0) → digB (dval 0 ds) = ds.map fun x => ((48 + x : Nat) : Int)
 | 0, _, _, h, _, _ => by omega
 | k + 1, ds, hl, _, hlt, hc => by
  obtain ⟨init, x, rfl⟩ : ∃ init x, ds = init ++ [x] := ⟨ds.dropLast, ds.getLast (by intro e; subst e; simp at hl), (List.dropLast_concat_getLast _).symm⟩
  have hx : x < 10 := hlt x (by simp)
  have hb : ∀ y : Nat, y < 10 → ((UInt8.ofNat (48 + y)).toNat : Int) = ((48 + y : Nat) : Int) := fun y hy => by simp [UInt8.toNat_ofNat']; omega
  rw [dval_snoc]
  by_cases hk : k = 0
  · subst hk
    have : init = [] := by simpa using hl
    subst this
    show digB (10 * 0 + x) = _
    rw [Nat.mul_zero, Nat.zero_add, digB, Lib.decDigits_one hx]
    simp only [List.map_cons, List.map_nil, List.nil_append]
    rw [hb x hx]
  · have hi : init.length = k := by simp at hl; exact hl
    have h0 : init.getD 0 0 ≠ 0 := by
     rcases hc with h | h
     · omega
     · rw [List.getD_eq_getElem?_getD, List.getElem?_append_left (by omega), ← List.getD_eq_getElem?_getD] at h; exact h
    have ih := dec_canon k init hi (by omega) (fun y hy => hlt y (by simp [hy])) (.inr h0)
    have hpos : 1 ≤ dval 0 init := by
     cases init with
     | nil => simp at hi; omega
     | cons y r =>
      rw [dval_cons]
      have := dval_ge r (10 * 0 + y)
      have h0' : y ≠ 0 := h0
      omega
    rw [digB, Lib.decDigits, dif_neg (by omega), show (10 * dval 0 init + x) / 10 = dval 0 init by omega, show (10 * dval 0 init + x) % 10 = x by omega, List.map_append, List.map_append]
    rw [digB] at ih
    rw [ih]
    simp only [List.map_cons, List.map_nil]
    rw [hb x hx]
theorem dec_digits (n : Nat) : ∃ ds : List Nat, 0 < ds.length ∧ (∀ x ∈ ds, x < 10) ∧ (ds.length = 1 ∨ ds.getD 0 0 ≠ 0) ∧ dval 0 ds = n ∧ (0 < n → ds.getD 0 0 ≠ 0) := by
 induction n using Nat.strongRecOn with
 | ind n ih =>
  by_cases h : n < 10
  · exact ⟨[n], by simp, by simp [h], .inl rfl, by simp [dval], fun h => by simp; omega⟩
  · obtain ⟨ds, h1, h2, h3, h4, h5⟩ := ih (n / 10) (by omega)
    have h0 : (ds ++ [n % 10]).getD 0 0 ≠ 0 := by
     rw [List.getD_eq_getElem?_getD, List.getElem?_append_left h1, ← List.getD_eq_getElem?_getD]
     exact h5 (by omega)
    refine ⟨ds ++ [n % 10], by simp, fun x hx => ?_, .inr h0, by rw [dval_snoc, h4]; omega, fun _ => h0⟩
    rcases List.mem_append.1 hx with hx | hx
    · exact h2 x hx
    · simp at hx; omega
theorem dgs_map : ∀ (ds : List Nat) (r : List Int), (∀ x ∈ ds, x < 10) → dgs (ds.map (fun x => ((48 + x : Nat) : Int)) ++ 58 :: r) = ds
 | [], r, _ => by rw [List.map_nil, List.nil_append, dgs, if_neg (by unfold isDg; omega)]
 | x :: ds, r, h => by
  have hx : x < 10 := h x (List.mem_cons_self ..)
  rw [List.map_cons, List.cons_append, dgs, if_pos (by unfold isDg; omega), dgs_map ds r fun y hy => h y (List.mem_cons_of_mem _ hy)]
  congr 1
  omega
/-- A row that was written is taken. -/
theorem take_net (x r : List Int) (h : x.length ≤ 16384) : takeF (netF x ++ r) = some (x, r) := by
 obtain ⟨ds, h1, h2, h3, h4, _⟩ := dec_digits x.length
 have hdig := dec_canon ds.length ds rfl h1 h2 h3
 rw [h4] at hdig
 have hb : netF x ++ r = ds.map (fun x => ((48 + x : Nat) : Int)) ++ 58 :: (x ++ 44 :: r) := by
  rw [netF, hdig]; simp
 have hd : dgs (netF x ++ r) = ds := by rw [hb, dgs_map ds _ h2]
 have hs := szF_small (netF x ++ r) 0 0 (by rw [hd, h4]; exact h)
 rw [hd, h4, Nat.zero_add] at hs
 have hl : (netF x ++ r).length = ds.length + x.length + 2 + r.length := by rw [hb]; simp; omega
 have hg0 : (netF x ++ r).getD 0 0 = ((48 + ds.getD 0 0 : Nat) : Int) := by
  rw [hb]
  cases ds with
  | nil => simp at h1
  | cons y ds => rfl
 have hgd : (netF x ++ r).getD ds.length 0 = 58 := by
  rw [hb, List.getD_eq_getElem?_getD, List.getElem?_append_right (by simp)]
  simp
 have hge : (netF x ++ r).getD (ds.length + 1 + x.length) 0 = 44 := by
  rw [hb, List.getD_eq_getElem?_getD, List.getElem?_append_right (by simp; omega)]
  rw [show ds.length + 1 + x.length - (ds.map fun x => ((48 + x : Nat) : Int)).length = x.length + 1 by simp; omega, List.getElem?_cons_succ, List.getElem?_append_right (Nat.le_refl _), Nat.sub_self]
  rfl
 unfold takeF
 rw [hs]
 simp only
 rw [if_neg, if_neg]
 · have e1 : (netF x ++ r).drop (ds.length + 1) = x ++ 44 :: r := by
    rw [hb, show ds.length + 1 = (ds.map fun x => ((48 + x : Nat) : Int)).length + 1 by simp, List.drop_length_add_append]
    rfl
   have e2 : (netF x ++ r).drop (ds.length + x.length + 2) = r := by
    rw [show ds.length + x.length + 2 = (ds.length + 1) + (x.length + 1) by omega, ← List.drop_drop, e1, List.drop_length_add_append]
    rfl
   rw [e1, e2, List.take_left' rfl]
 · rintro (h | h | h)
   · omega
   · exact h hgd
   · exact h hge
 · rintro (h | h | h)
   · omega
   · obtain ⟨ha, hb'⟩ := h
     rw [hg0] at hb'
     rcases h3 with h3 | h3
     · omega
     · exact h3 (by omega)
   · omega
/-- What is taken was written so. -/
theorem take_sound (b x r : List Int) (h : takeF b = some (x, r)) : b = netF x ++ r ∧ x.length ≤ 16384 := by
 unfold takeF at h
 simp only at h
 split at h
 · cases h
 rename_i h1
 split at h
 · cases h
 rename_i h2
 injection h with h
 injection h with hx hr
 have hv : dval 0 (dgs b) ≤ 16384 := by
  rcases Nat.lt_or_ge 16384 (dval 0 (dgs b)) with h | h
  · exact absurd (.inr (.inr (szF_great b 0 0 h))) h1
  · exact h
 rw [szF_small b 0 0 hv] at h1 h2 hx hr
 simp only [Nat.zero_add] at h1 h2 hx hr
 have hlen : ¬ b.length < (dgs b).length + dval 0 (dgs b) + 2 := fun h => h2 (.inl h)
 have h58 : b.getD (dgs b).length 0 = 58 := Classical.byContradiction fun h => h2 (.inr (.inl h))
 have h44 : b.getD ((dgs b).length + 1 + dval 0 (dgs b)) 0 = 44 := Classical.byContradiction fun h => h2 (.inr (.inr h))
 have hk0 : 0 < (dgs b).length := by
  rcases Nat.eq_zero_or_pos (dgs b).length with h | h
  · exact absurd (.inl h) h1
  · exact h
 have hlt : ∀ y ∈ dgs b, y < 10 := fun y hy => by
  obtain ⟨i, hi, rfl⟩ := List.mem_iff_getElem.1 hy
  obtain ⟨g1, g2⟩ := dgs_get b i hi
  rw [List.getD_eq_getElem?_getD, List.getElem?_eq_getElem hi] at g2
  unfold isDg at g1
  show (dgs b)[i] < 10
  have : (dgs b)[i] = (b.getD i 0 - 48).toNat := g2
  omega
 have hcan : (dgs b).length = 1 ∨ (dgs b).getD 0 0 ≠ 0 := by
  by_cases h : (dgs b).length = 1
  · exact .inl h
  · refine .inr fun h0 => h1 (.inr (.inl ⟨by omega, ?_⟩))
    obtain ⟨g1, g2⟩ := dgs_get b 0 hk0
    rw [h0] at g2
    unfold isDg at g1
    omega
 have hdig := dec_canon _ (dgs b) rfl hk0 hlt hcan
 generalize hkk : (dgs b).length = k at *
 generalize hvv : dval 0 (dgs b) = v at *
 have hxl : x.length = v := by rw [← hx, List.length_take, List.length_drop]; omega
 refine ⟨?_, by omega⟩
 have hpre : b.take k = digB v := by
  rw [hdig]
  refine List.ext_getElem (by rw [List.length_take, List.length_map]; omega) fun i i1 i2 => ?_
  have hi : i < (dgs b).length := by simp at i1; omega
  obtain ⟨g1, g2⟩ := dgs_get b i hi
  rw [List.getD_eq_getElem?_getD, List.getElem?_eq_getElem hi] at g2
  have hib : i < b.length := by omega
  rw [List.getElem_take, List.getElem_map]
  have g2' : (dgs b)[i] = (b.getD i 0 - 48).toNat := g2
  rw [g2']
  unfold isDg at g1
  rw [getD_el' b i hib] at g1 ⊢
  omega
 have hd1 : b.drop k = 58 :: b.drop (k + 1) := by
  have hkb : k < b.length := by omega
  rw [List.drop_eq_getElem_cons hkb, ← getD_el' b k hkb, h58]
 have hd2 : b.drop (k + 1) = x ++ b.drop (k + 1 + v) := by
  have := (List.take_append_drop v (b.drop (k + 1))).symm
  rw [List.drop_drop] at this
  rw [← hx]
  exact this
 have hd3 : b.drop (k + 1 + v) = 44 :: r := by
  have hkb : k + 1 + v < b.length := by omega
  rw [List.drop_eq_getElem_cons hkb, ← getD_el' b _ hkb, h44, ← hr]
  congr 2
  omega
 conv => lhs; rw [← List.take_append_drop k b, hpre, hd1, hd2, hd3]
 rw [netF, hxl]
 simp
theorem netF_pos (x : List Int) : 0 < (netF x).length := by rw [netF]; simp; omega
theorem takes_nets : ∀ (l : List (List Int)), (∀ x ∈ l, x.length ≤ 16384) → takesF l.length (netsF l) = some l
 | [], _ => rfl
 | x :: l, h => by
  have e : netsF (x :: l) = netF x ++ netsF l := by simp [netsF]
  rw [e, List.length_cons, takesF, take_net x _ (h x (List.mem_cons_self ..)), Option.bind_some]
  simp only
  rw [takes_nets l fun y hy => h y (List.mem_cons_of_mem _ hy)]
  rfl
theorem takes_sound : ∀ (n : Nat) (b : List Int) (l : List (List Int)), takesF n b = some l → b = netsF l ∧ l.length = n
 | 0, b, l, h => by
  unfold takesF at h
  split at h
  · rename_i e; cases h; exact ⟨e, rfl⟩
  · cases h
 | n + 1, b, l, h => by
  unfold takesF at h
  obtain ⟨p, hp, h2⟩ := Option.bind_eq_some_iff.1 h
  obtain ⟨l', h3, rfl⟩ := Option.map_eq_some_iff.1 h2
  obtain ⟨g1, g2⟩ := takes_sound n _ _ h3
  obtain ⟨x, r⟩ := p
  have h4 := (take_sound b x r hp).1
  refine ⟨?_, by simp [g2]⟩
  rw [h4]
  simp only at g1
  rw [g1]
  simp [netsF]
end Go.Proofs.YthdjgebbjogmiaaDoor
