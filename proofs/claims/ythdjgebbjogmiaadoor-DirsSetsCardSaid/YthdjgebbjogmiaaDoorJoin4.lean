/- Taking a read of a drawn region by hand, the slot named.
Lists of rows of bytes: reading them, and lists of the call's own. No condition.
code.Net: a row with its length ahead. Condition: at most 2^46 bytes.
Rows with their lengths: written, and taken again: plain laws. -/
import Derived.Test.YthdjgebbjogmiaaDoorJoin1
import Derived.Deep.RegionHeld3
import Derived.Test.YthdjgebbjogmiaaDoorJoin2
import Derived.Test.YthdjgebbjogmiaaDoorJoin3
set_option linter.unusedVariables false
set_option linter.unusedSimpArgs false
namespace Go.Proofs.YthdjgebbjogmiaaDoor
open Go Go.RowKit
set_option maxRecDepth 100000

theorem take_e {P : Program} {md : Region.Mode} {ops : Array Oper} {Q : Exit → Act → World → Prop} {S : World → Prop} (d : Nat) {i : Nat} {oi : Oper} {v : Value} {fuel : Nat} {listed : Array Bool} {a : Act} {w : World} (hi : ops[i]? = some oi) (hd : oi.dst = some d)
 (hy : YieldsIf P ops S oi v a) (hS : S w) (h : wpAnyH P md ops Q S fuel (listed.setIfInBounds i true) (a.put (some d) v) w)
 (hs : Region.noSelect ops = true := by kernel_rfl) (hf : Region.free md ops listed i = true := by kernel_rfl) (hr : (Region.ready md ops listed).contains i = true := by kernel_rfl)
 (hQ : ∀ c a w, Q (.panic c) (a.put oi.dst v) w → Q (.panic c) a w := by exact fun _ _ _ h => h) : wpAnyH P md ops Q S (fuel + 1) listed a w :=
 wpAnyH_take hi hs hf hr hQ hy hS (by rw [hd]; exact h)

end Go.Proofs.YthdjgebbjogmiaaDoor

namespace Go.Proofs.YthdjgebbjogmiaaDoor
open Go Go.RowKit
set_option maxRecDepth 100000

theorem el_brows : ElemOf Tryd.prog 73 26 1 24 := elem_of Tryd.underlying73 (z := .slice none 0 0) (by kernel_rfl) rfl (by decide) (by decide)

/-- A slice of slices of bytes. -/
def RowsB (w : World) (B : Nat) (v : Value) (rows : List (List Int)) : Prop :=
 ∃ vs : List Value, Rd w B 1 v rows.length vs ∧ vs.length = rows.length ∧ ∀ i (hi : i < rows.length), ∃ u, vs[i]? = some u ∧ Bs w B u rows[i]
section
variable {w w' : World} {B B' base : Nat} {v v' : Value} {rows : List (List Int)}
theorem RowsB.open_ (h : RowsB w B v rows) :
 ∃ (A : Option Addr) (c : Nat), v = .slice A rows.length c ∧ rows.length ≤ c ∧ c ≤ maxLen ∧
 (0 < rows.length → ∃ b o, A = some ⟨b, o, none⟩ ∧ b < B ∧ ∀ j (hj : j < rows.length), ∃ u, w.cell? ⟨b, o + j, none⟩ = some u ∧ Bs w B u rows[j]) := by
 obtain ⟨vs, ⟨A, c, rfl, h1, h2, h4, h3⟩, hl, hr⟩ := h
 refine ⟨A, c, rfl, h1, h2, fun hp => ?_⟩
 obtain ⟨b, o, rfl, hb, hc⟩ := h3 hp
 refine ⟨b, o, rfl, hb, fun j hj => ?_⟩
 obtain ⟨u, hu, hi⟩ := hr j hj
 exact ⟨u, hc j u hu, hi⟩
theorem RowsB.below (h : RowsB w B v rows) (hb : Below B' w w') (hB : B ≤ B') : RowsB w' B v rows := by
 obtain ⟨vs, hv, hl, hr⟩ := h
 refine ⟨vs, hv.belowM hb hB, hl, fun i hi => ?_⟩
 obtain ⟨u, hu, hx⟩ := hr i hi
 exact ⟨u, hu, hx.below hb hB⟩
theorem RowsB.more (h : RowsB w B v rows) (hB : B ≤ B') : RowsB w B' v rows := by
 obtain ⟨vs, hv, hl, hr⟩ := h
 refine ⟨vs, hv.more hB, hl, fun i hi => ?_⟩
 obtain ⟨u, hu, hx⟩ := hr i hi
 exact ⟨u, hu, hx.more hB⟩
theorem RowsB.nil_ (w : World) (B : Nat) : RowsB w B (.slice none 0 0) [] := ⟨[], Rd.nil_ _ _ _, rfl, fun i hi => absurd hi (by simp)⟩

/-- An element of such a list: it lies below the call's own, or is a row of its own. -/
def ElB (w : World) (base : Nat) (u : Value) (xs : List Int) : Prop := Bs w base u xs ∨ RowB w base u xs
theorem ElB.reads {u : Value} {xs : List Int} (h : ElB w base u xs) (hb : base ≤ w.heap.size) : Bs w w.heap.size u xs := by
 rcases h with h | h
 · exact h.more hb
 · exact h.reads
theorem ElB.one {u : Value} {xs : List Int} (h : ElB w base u xs) : u.oneCell' = true := by
 rcases h with h | h
 · obtain ⟨A, c, rfl, _⟩ := h.open_; rfl
 · obtain ⟨A, c, rfl⟩ := h.shape; rfl
theorem ElB.keptB {u : Value} {xs : List Int} (h : ElB w base u xs) (hb : Below w.heap.size w w') (hB : base ≤ w.heap.size) : ElB w' base u xs := by
 rcases h with h | h
 · exact .inl (h.below hb hB)
 · exact .inr (h.keptB hb)
/-- A list of rows of bytes of the call's own. -/
def OwnRows (w : World) (base : Nat) (v : Value) (rows : List (List Int)) : Prop :=
 ∃ vs : List Value, w.ownsRow base 26 1 v rows.length vs ∧ ∀ i (hi : i < rows.length), ∃ u, vs[i]? = some u ∧ ElB w base u rows[i]
theorem OwnRows.nil_ (w : World) (base : Nat) : OwnRows w base (.slice none 0 0) [] := ⟨[], World.ownsRow_nil _ _ _ _, fun i hi => absurd hi (by simp)⟩
theorem OwnRows.keptB (h : OwnRows w base v rows) (hb : Below w.heap.size w w') (hB : base ≤ w.heap.size) : OwnRows w' base v rows := by
 obtain ⟨vs, h1, h2⟩ := h
 refine ⟨vs, own_keptB h1 hb, fun i hi => ?_⟩
 obtain ⟨u, hu, hx⟩ := h2 i hi
 exact ⟨u, hu, hx.keptB hb hB⟩
theorem OwnRows.reads (h : OwnRows w base v rows) (hB : base ≤ w.heap.size) : RowsB w w.heap.size v rows := by
 obtain ⟨vs, h1, h2⟩ := h
 refine ⟨vs, Rd.of_own h1, by have := h1.1; omega, fun i hi => ?_⟩
 obtain ⟨u, hu, hx⟩ := h2 i hi
 exact ⟨u, hu, hx.reads hB⟩
end

end Go.Proofs.YthdjgebbjogmiaaDoor

namespace Go.Proofs.YthdjgebbjogmiaaDoor
open Go Go.RowKit
set_option maxRecDepth 100000

def netF (xs : List Int) : List Int := digB xs.length ++ [58] ++ xs ++ [44]
theorem netF_bytes {xs : List Int} (h : Bytes xs) : Bytes (netF xs) := by
 refine (((digB_bytes _).app ?_).app h).app ?_ <;> (intro x hx; simp at hx; omega)

theorem digits_bound (n : Nat) (hn : n ≤ 9223372036854775807) : (digB n).length ≤ 19 := by
 rw [digB, List.length_map, Lib.decDigits_length]
 rcases Nat.lt_or_ge (Lib.nDigits n) 20 with h | h
 · omega
 · exfalso
   obtain ⟨k, hk⟩ : ∃ k, Lib.nDigits n = k + 20 := ⟨Lib.nDigits n - 20, by omega⟩
   have h1 : ∀ u m, Lib.nDigits u = m + 1 → 10 ^ m ≤ u ∨ m = 0 := by
    intro u
    induction u using Nat.strongRecOn with
    | ind u ih =>
     intro m hm
     by_cases hu : u < 10
     · rw [Lib.nDigits_small hu] at hm; right; omega
     · rw [Lib.nDigits_big hu] at hm
       rcases m with _ | m
       · right; rfl
       · left
         have := ih (u / 10) (by omega) m (by omega)
         have h10 : 1 ≤ u / 10 := by omega
         have hp : 10 ^ m ≤ u / 10 := by
          rcases this with h | h
          · exact h
          · subst h; simpa using h10
         have : 10 ^ (m + 1) = 10 ^ m * 10 := Nat.pow_succ _ _
         omega
   rcases h1 n (k + 19) (by omega) with h | h
   · have : 10 ^ 19 ≤ 10 ^ (k + 19) := Nat.pow_le_pow_right (by decide) (by omega)
     have : (10 : Nat) ^ 19 = 10000000000000000000 := by decide
     omega
   · omega

set_option maxHeartbeats 1000000 in
theorem Net_any (v : Value) (xs : List Int) (w : World) (hv : Bs w w.heap.size v xs) (hb : Bytes xs) (hn : xs.length ≤ 70368744177664) (ht : Tab w w.heap.size) :
 Calls Tryd.prog 61 #[v] w fun e w' => ∃ v', e = .returned v' ∧ RowB w' w.heap.size v' (netF xs) ∧ Below w.heap.size w w' := by
 have HV := hide hv
 have HBX := hide hb
 have HT := hide ht
 obtain ⟨A, c, rfl, h1, h2, h3⟩ := hv.open_
 unfold maxLen at h2
 obtain ⟨n, HN⟩ : ∃ n, Hid (xs.length = n) := ⟨_, hide rfl⟩
 have HNF := hide (show netF xs = digB n ++ [58] ++ xs ++ [44] by rw [netF, HN.out])
 rw [HN.out] at h1 hn HV
 rw [HN.out]
 have HDL := hide (digits_bound n (by omega))
 have HDB := hide (digB_bytes n)
 obtain ⟨dd, HDD⟩ : ∃ d, Hid (digB n = d) := ⟨_, hide rfl⟩
 rw [HDD.out] at HNF HDL HDB
 clear hv hb h3 ht
 go_enter Tryd.func61, Tryd.ntmps61
 go_wp2_with fail
 refine (itoa_any n w w.heap.size HT.out (by omega)).mono ?_
 rintro e w1 ⟨s, rfl, hs, hb1⟩
 rw [HDD.out] at hs
 have hsl : s.size ≤ 19 := by rw [← strB_len, hs]; exact HDL.out
 have HS := hide hs
 have HB1 := hide hb1
 have hz1 := hb1.size
 clear hs hb1
 go_wp2_with (first
  | (refine wpList_to_bytes rfl _ rfl s rfl (by unfold maxLen; omega) ?_; intro v7 w2 ho7 hb2; have HO7 := hide ho7; have HB2 := hide hb2; have hz2 := hb2.size; clear ho7 hb2)
  | (refine wpList_lit rfl _ _ rfl [58] rfl (by omega) (by omega) rfl ?_; intro g3 w3 bk3 hg3 hb3; have HL3 := hide ((RowB.of_blk (base := 0) bk3 (by omega) (show Bytes [58] from fun x hx => by simp at hx; omega) (by decide)).reads); have HO7' := hide ((HO7.out.keptB hb3).more hz1); rw [HS.out] at HO7'; have HB3 := hide ((HB1.out.trans (HB2.out.mono hz1)).trans (hb3.mono (by omega))); have hz3 := hb3.size; clear bk3 hg3 hb3 HO7)
  | (at_builtin; refine wpList_append_B rfl _ _ rfl w.heap.size _ _ rfl HO7'.out _ _ [58] rfl HL3.out (by intro x hx; simp at hx; omega) (by have := HDL.out; simp; omega) (by omega) ?_; intro v9 w4 ho9 hg4; have hz4 := hg4.size; have HB4 := hide (HB3.out.grown hg4 (by omega) (fun k hk => (HO7'.out.base_ k hk).1)); have HO9 := hide ho9; have HV4 := hide (HV.out.below HB4.out (Nat.le_refl _)); clear ho9 hg4 HB3 HO7' HL3)
  | (at_builtin; refine wpList_append_B rfl _ _ rfl w.heap.size _ _ rfl HO9.out _ _ xs rfl HV4.out HBX.out (by have := HDL.out; simp [HN.out]; omega) (by omega) ?_; intro v12 w5 ho12 hg5; have hz5 := hg5.size; have HB5 := hide (HB4.out.grown hg5 (by omega) (fun k hk => (HO9.out.base_ k hk).1)); have HO12 := hide ho12; clear ho12 hg5 HB4 HO9 HV4)
  | (refine wpList_lit rfl _ _ rfl [44] rfl (by omega) (by omega) rfl ?_; intro g6 w6 bk6 hg6 hb6; have HL6 := hide ((RowB.of_blk (base := 0) bk6 (by omega) (show Bytes [44] from fun x hx => by simp at hx; omega) (by decide)).reads); have HO13 := hide (HO12.out.keptB hb6); have HB6 := hide (HB5.out.trans (hb6.mono (by omega))); have hz6 := hb6.size; clear bk6 hg6 hb6 HO12 HB5)
  | (at_builtin; refine wpList_append_B rfl _ _ rfl w.heap.size _ _ rfl HO13.out _ _ [44] rfl HL6.out (by intro x hx; simp at hx; omega) (by have := HDL.out; simp [HN.out]; omega) (by omega) ?_; intro v15 w7 ho15 hg7; have HB7 := hide (HB6.out.grown hg7 (by omega) (fun k hk => (HO13.out.base_ k hk).1)); have HO15 := hide ho15; clear ho15 hg7 HB6 HO13 HL6))
 go_ret
 exact ⟨_, rfl, by rw [HNF.out]; exact HO15.out, HB7.out⟩
end Go.Proofs.YthdjgebbjogmiaaDoor

namespace Go.Proofs.YthdjgebbjogmiaaDoor
open Go Go.RowKit
set_option maxRecDepth 100000

def isDg (c : Int) : Prop := 48 ≤ c ∧ c ≤ 57
instance (c : Int) : Decidable (isDg c) := inferInstanceAs (Decidable (_ ∧ _))
def netsF (l : List (List Int)) : List Int := (l.map netF).flatten
end Go.Proofs.YthdjgebbjogmiaaDoor
