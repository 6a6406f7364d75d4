/- place.without: the rows without a server's ahead of one, and without a share. Condition: rows and numbers are few (below 1000).
The reference's match: goes through all ways. Condition: the bits of 'used' are shares.
The first rows of pairs, as a function; plain law. No program in sight but for the words.
place.Pairs: what it computes. Condition: rows and numbers are few.
All servers have all shares: as many pairs as there are of either; a server without shares makes none. One server more stands somewhere between. No program in sight. -/
import Derived.Test.YtgjepahhbecljaaDoorMatching
import Derived.Test.YtgjepahhbecljaaDoorOrder
namespace Go.Proofs.YtgjepahhbecljaaDoor
open Go Go.RowKit
set_option maxRecDepth 100000

def woRow (from_ : Int) (sh : List Int) (p : List Int × Nat) : List Int := if from_ ≤ p.2 then p.1.filter (fun n => !decide (n ∈ sh)) else []
def withoutF (l : List (List Int)) (from_ : Int) (sh : List Int) : List (List Int) := l.zipIdx.map (woRow from_ sh)
def Few (l : List (List Int)) : Prop := l.length ≤ 1000 ∧ ∀ r ∈ l, r.length ≤ 1000

theorem filter_take_succ (p : Int → Bool) (xs : List Int) (j : Nat) (hj : j < xs.length) : (xs.take (j + 1)).filter p = (xs.take j).filter p ++ (if p xs[j] = true then [xs[j]] else []) := by
  rw [List.take_succ_eq_append_getElem hj, List.filter_append]
  congr 1
  by_cases h : p xs[j] = true <;> simp [List.filter_cons, h]

set_option maxHeartbeats 2000000 in
theorem without_any (v vs : Value) (l : List (List Int)) (from_ : Int) (sh : List Int) (w : World) (B : Nat) (h : Rows2 w B v l) (hs : Ints w B vs sh) (hB : B ≤ w.heap.size) (hf : Few l) :
    Calls Tryd.prog 79 #[v, .int .i64 from_, vs] w (Gives fun v' w' => Own2 w' w.heap.size 53 3 v' (withoutF l from_ sh) ∧ Below w.heap.size w w') := by
  obtain ⟨A, c, rfl, h1, h2, h3⟩ := h.open_
  unfold maxLen at h2
  obtain ⟨hf1, hf2⟩ := hf
  have HF2 := hide hf2
  have HS := hide hs
  have H3 := hide h3
  clear h h3 hs hf2
  go_enter Tryd.func79, Tryd.ntmps79
  go_wp2_with fail
  go_loopw [7, 8, 9, 10, 12, 15, 22] (fun vo _ _ _ _ i _ wr => ∃ k : Nat, k ≤ l.length ∧ i = .int .i64 k ∧ Own2 wr w.heap.size 53 3 vo ((l.zipIdx.take k).map (woRow from_ sh)) ∧ Below w.heap.size w wr) (fun _ _ _ _ _ i _ _ => l.length - (intOf i).toNat)
  case atStart => exact ⟨0, Nat.zero_le _, rfl, Own2.nil_ _ _ _ _, Below.refl _ _⟩
  case round =>
    obtain ⟨k, hk, rfl, hown, hbel⟩ := hrel
    by_cases hlt : k < l.length
    · obtain ⟨b, o, rfl, hbB, hcs⟩ := H3.out (by omega)
      obtain ⟨u, hc0, hi0⟩ := hcs k hlt
      have hc : wr.cell? ⟨b, o + k, none⟩ = some u := (hbel.cell (p := ⟨b, o + k, none⟩) (by simp; omega)).trans hc0
      have hsz0 := hbel.size
      have hrl : l[k].length ≤ 1000 := HF2.out _ (List.getElem_mem hlt)
      obtain ⟨A1, c1, rfl, g1, g2, g3⟩ := (hi0.below hbel hB).open_
      unfold maxLen at g2
      have G3 := hide g3
      have HO := hide hown
      have HB := hide hbel
      clear hown hbel hcs hc0 hi0 g3
      obtain ⟨wo, rfl⟩ : ∃ wo : World, wo = wr := ⟨_, rfl⟩
      go_wp2_with fail
      go_loopw [10, 12, 22] (fun vl _ i wr => ∃ j : Nat, j ≤ l[k].length ∧ i = .int .i64 j ∧ (∃ g : List Int, g = woRow from_ sh (l[k].take j, k) ∧ wr.ownsRow wo.heap.size 3 1 vl g.length (g.map (.int .i64))) ∧ Below wo.heap.size wo wr) (fun _ _ i _ => l[k].length - (intOf i).toNat)
      case atStart => exact ⟨0, Nat.zero_le _, rfl, ⟨[], by simp [woRow], World.ownsRow_nil _ _ _ _⟩, Below.refl _ _⟩
      case round =>
        obtain ⟨j, hj, rfl, ⟨g, hg, hown⟩, hbel⟩ := hrel
        have HG := hide hg
        clear hg
        have hsr := hbel.size
        by_cases hjt : j < l[k].length
        · obtain ⟨b1, o1, rfl, hb1, hcs⟩ := G3.out (by omega)
          have hc1 : wr.cell? ⟨b1, o1 + j, none⟩ = some (.int .i64 l[k][j]) := (hbel.cell (p := ⟨b1, o1 + j, none⟩) (by simp; omega)).trans (hcs j hjt)
          have hgl : g.length ≤ 1000 := by
            rw [HG.out]; unfold woRow; split
            · exact Nat.le_trans (List.length_filter_le _ _) (by simp; omega)
            · simp
          have hst := hide (filter_take_succ (fun n => !decide (n ∈ sh)) l[k] j hjt)
          obtain ⟨x, HX⟩ : ∃ x, Hid (l[k][j] = x) := ⟨_, hide rfl⟩
          rw [HX.out] at hc1
          have HS1 := hide ((HS.out.below HB.out hB).below (hbel.mono hsz0) hB)
          have HB1 := hide hbel
          have HO1 := hide hown
          clear hcs hbel
          by_cases hfr : from_ ≤ k
          · clear hown
            go_wp2_with fail
            refine (contains_any vs sh x wr B HS1.out).mono ?_
            rintro e w' ⟨rfl, rfl⟩
            by_cases hin : x ∈ sh
            · have hb : decide (x ∈ sh) = true := by simpa using hin
              rw [hb]
              clear hb
              go_wp2_with fail
              go_roundw
              case rel =>
                refine ⟨j + 1, by omega, by go_num, ⟨g, ?_, HO1.out⟩, HB1.out⟩
                rw [HG.out]
                simp only [woRow, if_pos hfr]
                rw [hst.out, HX.out]
                simp [hin]
              case measure => simp [intOf]; omega
            · have hb : decide (x ∈ sh) = false := by simpa using hin
              rw [hb]
              clear hb
              have hoA := HO1.out.alloc (.cells #[.int .i64 x] 3)
              have hbyt : (g.length + 1) * 8 ≤ 140737488355328 := by omega
              have hbase : wo.heap.size ≤ (wr.alloc (.cells #[.int .i64 x] 3)).heap.size := by simp; omega
              go_wp2_with (at_builtin; go_must (refine wpList_append_rd _ rfl _ _ _ rfl wo.heap.size _ _ _ el_ints _ _ _ rfl hoA (wr.heap.size + 1) _ _ _ rfl (Rd.one wr 3 _) (by intro u hu; obtain rfl := List.mem_singleton.1 hu; rfl) hbyt hbase ?_))
              intro v' w3 hown3 hgr _
              have HO3 := hide (show w3.ownsRow wo.heap.size 3 1 v' (g ++ [x]).length ((g ++ [x]).map (.int .i64)) by simpa using hown3)
              have HB3 := hide ((HB1.out.alloc (by omega) _).grown hgr hbase (own_base hoA))
              clear hown3 hgr hoA
              go_wp2_with fail
              go_roundw
              case rel =>
                refine ⟨j + 1, by omega, by go_num, ⟨g ++ [x], ?_, HO3.out⟩, HB3.out⟩
                rw [HG.out]
                simp only [woRow, if_pos hfr]
                rw [hst.out, HX.out]
                simp [hin]
              case measure => simp [intOf]; omega
          · clear hown
            go_wp2_with fail
            go_roundw
            case rel =>
              refine ⟨j + 1, by omega, by go_num, ⟨g, ?_, HO1.out⟩, HB1.out⟩
              rw [HG.out]
              simp only [woRow, if_neg hfr]
            case measure => simp [intOf]; omega
        · have ej : l[k].take j = l[k] := List.take_of_length_le (by omega)
          have hz : (l.zipIdx.take (k + 1)).map (woRow from_ sh) = (l.zipIdx.take k).map (woRow from_ sh) ++ [g] := by
            rw [List.take_succ_eq_append_getElem (by simpa using hlt), List.map_append, HG.out, ej]
            simp
          have HZ := hide hz
          have hlk : ((l.zipIdx.take k).map (woRow from_ sh)).length = k := by simp; omega
          obtain ⟨A2, c2, rfl⟩ := own_shape hown
          have HB1 := hide (HB.out.trans (hbel.mono hsz0))
          obtain ⟨vs', ho, hvs⟩ := HO.out.keptB hbel
          have HV := hide hvs
          have HO2 := hide (own_more hown hsz0)
          have hoA := ho.alloc (.cells #[.slice A2 g.length c2] 53)
          have hone := hide (own_one hown)
          have hbyt : (((l.zipIdx.take k).map (woRow from_ sh)).length + 1) * 24 ≤ 140737488355328 := by omega
          have hbase : w.heap.size ≤ (wr.alloc (.cells #[.slice A2 g.length c2] 53)).heap.size := by simp; omega
          generalize (l.zipIdx.take k).map (woRow from_ sh) = R at *
          clear hlk hz ej hown hbel ho hvs
          go_wp2_with (at_builtin; go_must (refine wpList_append_rd _ rfl _ _ _ rfl w.heap.size _ _ _ el_rows _ _ _ rfl hoA (wr.heap.size + 1) _ _ _ rfl (Rd.one wr 53 _) hone.out hbyt hbase ?_))
          intro v' w2 hown2 hgr _
          have HX : Hid (Own2 w2 w.heap.size 53 3 v' (R ++ [g]) ∧ Below w.heap.size w w2) := by
            have ho1 := own_keptB HO2.out ((Below.refl _ _).alloc (Nat.le_refl _) (.cells #[.slice A2 g.length c2] 53))
            refine ⟨Own2.push (w := wr.alloc (.cells #[.slice A2 g.length c2] 53)) hoA (fun i hi => ?_) (by decide) ho1 hown2 hgr, ?_⟩
            · obtain ⟨u, hu, hx⟩ := HV.out i hi
              exact ⟨u, hu, hx.alloc _⟩
            · exact (HB1.out.alloc (by omega) _).grown hgr hbase (own_base hoA)
          clear hown2 hgr hoA
          go_wp2_with fail
          go_roundw
          case rel => exact ⟨k + 1, by omega, by go_num, by rw [HZ.out]; exact HX.out.1, HX.out.2⟩
          case measure => simp [intOf]; omega
    · have e : l.zipIdx.take k = l.zipIdx := List.take_of_length_le (by simp; omega)
      rw [e] at hown
      clear e
      go_wp2_with fail
      go_ret
      exact ⟨_, rfl, hown, hbel⟩
end Go.Proofs.YtgjepahhbecljaaDoor

namespace Go.Proofs.YtgjepahhbecljaaDoor
open Go Go.RowKit
set_option maxRecDepth 100000

theorem mmR_le16 (l : List (List Int)) (U : Nat → Bool) : mmR l U ≤ 16 := by
  obtain ⟨⟨f, _, e⟩, _⟩ := mmR_isMax l _ 0 U rfl (Nat.zero_le _)
  rw [List.drop_zero] at e
  have : sz f ≤ 16 := by
    have := List.countP_le_length (p := fun n => decide (0 ≤ f n)) (l := List.range 16)
    unfold sz; simpa using this
  omega

theorem ofInt64 (a : Nat) (ha : a < 9223372036854775808) : (BitVec.ofInt 64 (a : Int)).toNat = a := by
  rw [BitVec.ofInt_natCast, BitVec.toNat_ofNat]; exact Nat.mod_eq_of_lt (by omega)
theorem and64 (a b : Nat) (ha : a < 9223372036854775808) (hb : b < 9223372036854775808) : bits .and .i64 (a : Int) (b : Int) = ((a &&& b : Nat) : Int) := by
  have hx : a &&& b < 2 ^ 63 := Nat.and_lt_two_pow _ (by omega)
  show IntKind.i64.wrap ((BitVec.ofInt 64 (a : Int) &&& BitVec.ofInt 64 (b : Int)).toNat : Int) = _
  rw [BitVec.toNat_and, ofInt64 a ha, ofInt64 b hb, IntKind.wrap_i64]
  omega
theorem or64 (a b : Nat) (ha : a < 9223372036854775808) (hb : b < 9223372036854775808) : bits .or .i64 (a : Int) (b : Int) = ((a ||| b : Nat) : Int) := by
  have hx : a ||| b < 2 ^ 63 := Nat.or_lt_two_pow (by omega) (by omega)
  show IntKind.i64.wrap ((BitVec.ofInt 64 (a : Int) ||| BitVec.ofInt 64 (b : Int)).toNat : Int) = _
  rw [BitVec.toNat_or, ofInt64 a ha, ofInt64 b hb, IntKind.wrap_i64]
  omega
theorem bit_test (used x : Nat) (hu : used < 65536) : bits .and .i64 ((used : Int) / 2 ^ x) 1 = if used.testBit x = true then 1 else 0 := by
  have e : ((used : Int) / 2 ^ x) = ((used / 2 ^ x : Nat) : Int) := by
    rw [Int.natCast_ediv, Int.natCast_pow]; rfl
  have hle : used / 2 ^ x ≤ used := Nat.div_le_self _ _
  rw [e, show (1 : Int) = ((1 : Nat) : Int) from rfl, and64 _ _ (by omega) (by omega), Nat.testBit, Nat.shiftRight_eq_div_pow, Nat.and_comm]
  have h1 : 1 &&& used / 2 ^ x ≤ 1 := Nat.and_le_left
  generalize 1 &&& used / 2 ^ x = y at h1 ⊢
  rcases y with _ | _ | y
  · rfl
  · rfl
  · omega

theorem bit_or (used x : Nat) (hu : used < 65536) (hx : x < 16) : bits .or .i64 (used : Int) (wrap64 (2 ^ x)) = ((used ||| 2 ^ x : Nat) : Int) ∧ (used ||| 2 ^ x) < 65536 := by
  have hp : 2 ^ x < 2 ^ 16 := Nat.pow_lt_pow_right (by omega) hx
  have e : ((2 : Int) ^ x) = ((2 ^ x : Nat) : Int) := by rw [Int.natCast_pow]; rfl
  refine ⟨?_, Nat.or_lt_two_pow (n := 16) (by omega) (by omega)⟩
  rw [e]
  generalize 2 ^ x = y at hp ⊢
  rw [IntWalk.wrap64_in _ (by omega), or64 _ _ (by omega) (by omega)]
theorem bit_more (used x : Nat) : (used ||| 2 ^ x).testBit = fun y => used.testBit y || y == x := by
  funext y
  rw [Nat.testBit_or, Nat.testBit_two_pow]
  congr 1
  by_cases h : x = y
  · subst h; simp
  · have : ¬ y = x := fun e => h e.symm
    simp [h, this]

def mmStep (rs : List (List Int)) (U : Nat → Bool) (best : Nat) (n : Int) : Nat := if 0 ≤ n ∧ n < 16 ∧ U n.toNat = false then max best (1 + mmR rs (fun x => U x || x == n.toNat)) else best
theorem mmR_cons (r : List Int) (rs : List (List Int)) (U : Nat → Bool) : mmR (r :: rs) U = r.foldl (mmStep rs U) (mmR rs U) := rfl

end Go.Proofs.YtgjepahhbecljaaDoor

namespace Go.Proofs.YtgjepahhbecljaaDoor
open Go Go.RowKit
set_option maxRecDepth 100000

def prOk (l : List (List Int)) (s : Nat) (used : List Int) (left : Nat) (n : Nat) : Bool :=
  decide ((n : Int) ∈ l.getD s []) && !decide ((n : Int) ∈ used) && decide (mmR (l.drop (s + 1)) (fun x => decide ((x : Int) ∈ used) || x == n) + 1 = left)
def prStep (l : List (List Int)) (st : List (Int × Int) × Nat) (s : Nat) : List (Int × Int) × Nat :=
  if st.2 = 0 then st else
  match (List.range 16).find? (prOk l s (st.1.map (·.2)) st.2) with
  | none => st
  | some n => (st.1 ++ [((s : Int), (n : Int))], st.2 - 1)
def prTo (l : List (List Int)) (s : Nat) : List (Int × Int) × Nat := (List.range s).foldl (prStep l) ([], mmR l fun _ => false)
def pairsF (l : List (List Int)) : List (Int × Int) := (prTo l l.length).1

theorem prTo_succ (l : List (List Int)) (s : Nat) : prTo l (s + 1) = prStep l (prTo l s) s := by
  unfold prTo
  rw [List.range_succ, List.foldl_append]
  rfl
theorem prStep_sum (l : List (List Int)) (st : List (Int × Int) × Nat) (s : Nat) : (prStep l st s).1.length + (prStep l st s).2 = st.1.length + st.2 := by
  unfold prStep
  split
  · rfl
  · split
    · rfl
    · simp; omega
theorem prTo_sum (l : List (List Int)) (s : Nat) : (prTo l s).1.length + (prTo l s).2 ≤ 16 := by
  have : (prTo l s).1.length + (prTo l s).2 = mmR l fun _ => false := by
    induction s with
    | zero => simp [prTo]
    | succ s ih => rw [prTo_succ, prStep_sum, ih]
  have := mmR_le16 l fun _ => false
  omega
/-- Once nothing is left, nothing turns any more. -/
theorem prTo_done (l : List (List Int)) (s k : Nat) (h : (prTo l s).2 = 0) : prTo l (s + k) = prTo l s := by
  induction k with
  | zero => rfl
  | succ k ih =>
    rw [← Nat.add_assoc, prTo_succ, ih, prStep, if_pos h]

theorem find_range_none (p : Nat → Bool) (N : Nat) (h : ∀ n, n < N → p n = false) : (List.range N).find? p = none := by
  rw [List.find?_eq_none]
  intro n hn
  rw [h n (List.mem_range.1 hn)]
  simp
theorem find_range_some (p : Nat → Bool) (N n : Nat) (hn : n < N) (h : ∀ m, m < n → p m = false) (hp : p n = true) : (List.range N).find? p = some n := by
  rw [List.find?_range_eq_some]
  refine ⟨hp, List.mem_range.2 hn, fun m hm => ?_⟩
  rw [h m hm]; rfl

theorem mem_without (l : List (List Int)) (from_ : Nat) (sh : List Int) (t : Nat) (x : Int) : x ∈ (withoutF l from_ sh).getD t [] ↔ (from_ ≤ t ∧ x ∈ l.getD t [] ∧ x ∉ sh) := by
  unfold withoutF
  rw [List.getD_eq_getElem?_getD, List.getElem?_map, List.getElem?_zipIdx, List.getD_eq_getElem?_getD]
  rcases h : l[t]? with _ | r
  · simp
  · simp only [Option.map_some, Option.getD_some, woRow, Nat.zero_add]
    by_cases hf : from_ ≤ t
    · rw [if_pos (by omega)]
      simp [hf]
    · rw [if_neg (by omega)]
      simp [hf]

theorem mm_without (l : List (List Int)) (from_ : Nat) (sh : List Int) (hf : from_ ≤ l.length) : (mmR (withoutF l from_ sh) fun _ => false) = mmR (l.drop from_) (fun x => decide ((x : Int) ∈ sh)) := by
  have h1 := mmR_max (withoutF l from_ sh)
  have h2 := mmR_isMax l _ from_ (fun x => decide ((x : Int) ∈ sh)) rfl hf
  have hl : (withoutF l from_ sh).length = l.length := by simp [withoutF]
  refine h1.uniq (h2.congr fun f => ⟨fun h => ⟨fun n hn h0 => ?_, h.inj⟩, fun h => ⟨fun n hn h0 => ?_, h.inj⟩⟩)
  · obtain ⟨a, b, c⟩ := h.ok n hn h0
    exact ⟨by omega, (mem_without _ _ _ _ _).2 ⟨a.1, b, by simpa using c⟩, fun h => h⟩
  · obtain ⟨a, b, c⟩ := h.ok n hn h0
    obtain ⟨d, e, g⟩ := (mem_without _ _ _ _ _).1 b
    exact ⟨⟨d, by omega⟩, e, by simpa using g⟩

theorem few_without {l : List (List Int)} (h : Few l) (from_ : Int) (sh : List Int) : Few (withoutF l from_ sh) := by
  refine ⟨by simpa [withoutF] using h.1, fun r hr => ?_⟩
  unfold withoutF at hr
  obtain ⟨p, hp, rfl⟩ := List.mem_map.1 hr
  unfold woRow
  split
  · exact Nat.le_trans (List.length_filter_le _ _) (h.2 _ (by
      obtain ⟨a, b⟩ := p
      have := List.mem_zipIdx hp
      rw [this.2.2]; exact List.getElem_mem _))
  · simp

/-- A row of pairs in memory, a row of the call's own. -/
def flat2 (ps : List (Int × Int)) : List Value := ps.flatMap fun p => [.int .i64 p.1, .int .i64 p.2]
theorem flat2_len (ps : List (Int × Int)) : (flat2 ps).length = ps.length * 2 := by
  induction ps with
  | nil => rfl
  | cons p ps ih => simp only [flat2, List.flatMap_cons, List.length_append, List.length_cons] at ih ⊢; simp at ih ⊢; omega
theorem flat2_snoc (ps : List (Int × Int)) (p : Int × Int) : flat2 (ps ++ [p]) = flat2 ps ++ [.int .i64 p.1, .int .i64 p.2] := by simp [flat2]
theorem el_pairs : ElemOf Tryd.prog 59 61 2 16 := elem_of (z := .agg #[.int .i64 0, .int .i64 0]) rfl (by kernel_rfl) rfl (by decide) (by decide)
def Prs (w : World) (base : Nat) (v : Value) (ps : List (Int × Int)) : Prop := w.ownsRow base 61 2 v ps.length (flat2 ps)
end Go.Proofs.YtgjepahhbecljaaDoor

namespace Go.Proofs.YtgjepahhbecljaaDoor
open Go Go.RowKit
set_option maxRecDepth 100000

/-- What stands between two rounds of the pairs' loop. -/
structure PrSt (l : List (List Int)) (w : World) (s : Nat) (vo vu vl : Value) (wr : World) : Prop where
  out : Prs wr w.heap.size vo (prTo l s).1
  used : wr.ownsRow w.heap.size 3 1 vu ((prTo l s).1.map (·.2)).length (((prTo l s).1.map (·.2)).map (.int .i64))
  left : vl = .int .i64 ((prTo l s).2 : Nat)
  below : Below w.heap.size w wr

theorem PrSt.kept {l : List (List Int)} {w : World} {s : Nat} {vo vu vl : Value} {wr w' : World} (h : PrSt l w s vo vu vl wr) (hb : Below wr.heap.size wr w') : PrSt l w s vo vu vl w' :=
  ⟨own_keptB h.out hb, own_keptB h.used hb, h.left, h.below.trans (hb.mono h.below.size)⟩

set_option maxHeartbeats 4000000 in
theorem pairs_any (v : Value) (l : List (List Int)) (w : World) (B : Nat) (h : Rows2 w B v l) (hB : B ≤ w.heap.size) (hfew : Few l) :
    Calls Tryd.prog 50 #[v] w (Gives fun v' w' => Prs w' w.heap.size v' (pairsF l) ∧ Below w.heap.size w w') := by
  obtain ⟨A, c, rfl, h1, h2, h3⟩ := h.open_
  unfold maxLen at h2
  have HF := hide hfew
  have hfl : l.length ≤ 1000 := hfew.1
  have HR := hide h
  have H3 := hide h3
  have HM := hide (match_mm _ l w B h hB)
  clear h h3 hfew
  go_enter Tryd.func50, Tryd.ntmps50
  go_wp2_with fail
  refine HM.out.mono ?_
  rintro e w1 ⟨rfl, hb1⟩
  have HB1 := hide hb1
  clear hb1
  go_wp2_with fail
  go_loopw [3, 4, 5, 6, 7, 20] (fun vo vu vl i _ _ wr => ∃ s : Nat, s ≤ l.length ∧ i = .int .i64 s ∧ PrSt l w s vo vu vl wr) (fun _ _ _ i _ _ _ => l.length - (intOf i).toNat)
  case atStart => exact ⟨0, Nat.zero_le _, rfl, World.ownsRow_nil _ _ _ _, World.ownsRow_nil _ _ _ _, rfl, HB1.out⟩
  case round =>
    obtain ⟨s, hs, rfl, hst⟩ := hrel
    obtain rfl := hst.left
    have hsum := prTo_sum l s
    obtain ⟨left, HL⟩ : ∃ left, Hid ((prTo l s).2 = left) := ⟨_, hide rfl⟩
    have HST := hide hst
    rw [HL.out] at hsum ⊢
    clear hst
    by_cases hlt : s < l.length
    · by_cases hl0 : 0 < left
      · obtain ⟨b, o, rfl, hbB, hcs⟩ := H3.out (by omega)
        obtain ⟨u, hc0, hi0⟩ := hcs s hlt
        have HC := hide hc0
        have HI := hide hi0
        clear hcs hc0 hi0
        obtain ⟨wo, rfl⟩ : ∃ wo : World, wo = wr := ⟨_, rfl⟩
        have hd1 : s ≤ l.length := hs
        go_wp2_with fail
        go_loopw [3, 4, 5, 7, 20] (fun vo vu vl _ j wr => ∃ n : Nat, n ≤ 16 ∧ j = .int .i64 n ∧ (∀ m, m < n → prOk l s ((prTo l s).1.map (·.2)) left m = false) ∧ vl = .int .i64 (left : Nat) ∧ PrSt l w s vo vu (.int .i64 ((prTo l s).2 : Nat)) wr) (fun _ _ _ _ j _ => 16 - (intOf j).toNat)
        case atStart => exact ⟨0, Nat.zero_le _, rfl, fun m hm => absurd hm (by omega), rfl, HST.out⟩
        case round =>
          obtain ⟨n, hn, rfl, hno, rfl, hst⟩ := hrel
          have HNO := hide hno
          have HST := hide hst
          clear hno hst
          by_cases hnt : n < 16
          · have hcell : wr.cell? ⟨b, o + s, none⟩ = some u := (HST.out.below.cell (p := ⟨b, o + s, none⟩) (by simp; omega)).trans HC.out
            have hsz := HST.out.below.size
            obtain ⟨used, HU⟩ : ∃ used, Hid ((prTo l s).1.map (·.2) = used) := ⟨_, hide rfl⟩
            have hul : used.length ≤ 16 := by rw [← HU.out]; simp; omega
            have hown := HST.out.used
            rw [HU.out] at hown
            have HO := hide hown
            have HU1 := hide (Ints.of_own hown)
            have HI1 := hide (HI.out.below HST.out.below hB)
            clear hown
            go_wp2_with fail
            refine (contains_any u l[s] (n : Int) wr B HI1.out).mono ?_
            rintro e w' ⟨rfl, rfl⟩
            by_cases hin : (n : Int) ∈ l[s]
            · have hb : decide ((n : Int) ∈ l[s]) = true := by simpa using hin
              rw [hb]
              have HIN := hide hb
              clear hb hin
              go_wp2_with fail
              refine (contains_any _ used (n : Int) wr _ HU1.out).mono ?_
              rintro e w' ⟨rfl, rfl⟩
              by_cases hin : (n : Int) ∈ used
              · have hb : decide ((n : Int) ∈ used) = true := by simpa using hin
                rw [hb]
                have HIN2 := hide hb
                clear hb hin
                go_wp2_with fail
                go_roundw
                case rel =>
                  refine ⟨n + 1, by omega, by go_num, fun m hm => ?_, rfl, HST.out⟩
                  rcases Nat.lt_or_ge m n with h | h
                  · exact HNO.out m h
                  · have : m = n := by omega
                    subst this
                    unfold prOk
                    rw [HU.out, HIN2.out]
                    simp
                case measure => simp [intOf]; omega
              · have hb : decide ((n : Int) ∈ used) = false := by simpa using hin
                rw [hb]
                have HIN2 := hide hb
                clear hb hin
                go_wp2_with fail
                refine (clone_ints _ used wr _ HU1.out (Nat.le_refl _) (by omega)).mono ?_
                rintro e w2 ⟨v2, rfl, ho2, hb2⟩
                have HST2 := hide (HST.out.kept hb2)
                have hsz2 := hb2.size
                have hoA := ho2.alloc (.cells #[.int .i64 n] 3)
                have hbyt : (used.length + 1) * 8 ≤ 140737488355328 := by omega
                have hbase : wr.heap.size ≤ (w2.alloc (.cells #[.int .i64 n] 3)).heap.size := by simp; omega
                have HB2 := hide hb2
                clear ho2 hb2
                go_wp2_with (at_builtin; go_must (refine wpList_append_rd _ rfl _ _ _ rfl wr.heap.size _ _ _ el_ints _ _ _ rfl hoA (w2.heap.size + 1) _ _ _ rfl (Rd.one w2 3 _) (by intro u hu; obtain rfl := List.mem_singleton.1 hu; rfl) hbyt hbase ?_))
                intro v3 w3 hown3 hgr _
                have HO3 := hide (show w3.ownsRow wr.heap.size 3 1 v3 (used ++ [(n : Int)]).length ((used ++ [(n : Int)]).map (.int .i64)) by simpa using hown3)
                have hb3 : Below wr.heap.size wr w3 := (HB2.out.alloc (by omega) _).grown hgr hbase (own_base hoA)
                have HB3 := hide hb3
                have HST3 := hide (HST.out.kept hb3)
                have hsz3 := hb3.size
                have HR3 := hide ((HR.out.below HST.out.below hB).below hb3 (by omega))
                clear hown3 hgr hoA hb3
                go_wp2_with fail
                refine (without_any _ v3 l ((s : Int) + 1) (used ++ [(n : Int)]) w3 w3.heap.size (HR3.out.more (by omega)) (Ints.of_own HO3.out) (Nat.le_refl _) HF.out).mono ?_
                rintro e w4 ⟨v4, rfl, ho4, hb4⟩
                have HB4 := hide (HB3.out.trans (hb4.mono hsz3))
                have hsz4 := hb4.size
                have HR4 := hide ho4.reads
                clear ho4 hb4
                go_wp2_with fail
                refine (match_mm v4 _ w4 _ HR4.out (Nat.le_refl _)).mono ?_
                rintro e w5 ⟨rfl, hb5⟩
                have hb5' := HB4.out.trans (hb5.mono (by omega))
                have HST5 := hide (HST.out.kept hb5')
                have em : (mmR (withoutF l ((s : Int) + 1) (used ++ [(n : Int)])) fun _ => false) = mmR (l.drop (s + 1)) (fun x => decide ((x : Int) ∈ used) || x == n) := by
                  have := mm_without l (s + 1) (used ++ [(n : Int)]) (by omega)
                  rw [show (((s + 1 : Nat)) : Int) = (s : Int) + 1 from by omega] at this
                  rw [this]
                  congr 1
                  funext x
                  by_cases hx : x = n
                  · subst hx; simp
                  · have : ¬ (x : Int) = n := by omega
                    simp [hx, this]
                rw [em]
                have hm16 := mmR_le16 (l.drop (s + 1)) (fun x => decide ((x : Int) ∈ used) || x == n)
                obtain ⟨q, HQ⟩ : ∃ q, Hid (mmR (l.drop (s + 1)) (fun x => decide ((x : Int) ∈ used) || x == n) = q) := ⟨_, hide rfl⟩
                rw [HQ.out] at hm16 ⊢
                have HOK := hide (show prOk l s ((prTo l s).1.map (·.2)) left n = decide (q + 1 = left) by
                  unfold prOk
                  rw [HU.out, HIN2.out, HQ.out, getD_eq _ _ _ hlt, HIN.out]
                  simp)
                clear hb5 hb5' em
                by_cases hq : q + 1 = left
                · have hq' : ((q : Int) == (left : Int) - 1) = true := by rw [beq_iff_eq]; omega
                  have hnext := hide (show prTo l (s + 1) = ((prTo l s).1 ++ [((s : Int), (n : Int))], left - 1) by
                    rw [prTo_succ, prStep, HL.out, if_neg (by omega), find_range_some _ 16 n hnt HNO.out (by rw [HOK.out]; simpa using hq)])
                  have HQE := hide hq
                  clear hq
                  have ho5 := HST5.out.out
                  unfold Prs at ho5
                  have hu5 := HST5.out.used
                  have hul5 : ((prTo l s).1.map (·.2)).length ≤ 16 := by rw [HU.out]; exact hul
                  have hol : (prTo l s).1.length ≤ 16 := by omega
                  have hszw5 := HST5.out.below.size
                  obtain ⟨os, HOS⟩ : ∃ os, Hid ((prTo l s).1 = os) := ⟨_, hide rfl⟩
                  rw [HOS.out] at ho5 hu5 hul5 hol
                  obtain ⟨us, HUS⟩ : ∃ us, Hid (os.map (·.2) = us) := ⟨_, hide rfl⟩
                  rw [HUS.out] at hu5 hul5
                  have hb5 := HST5.out.below
                  have HU5 := hide hu5
                  have HO5 := hide ho5
                  have HB5 := hide hb5
                  have hoA5 := ho5.alloc (.cells #[.int .i64 s, .int .i64 n] 61)
                  have hbyt5 : (os.length + 1) * 16 ≤ 140737488355328 := by omega
                  have hbase5 : w.heap.size ≤ (w5.alloc (.cells #[.int .i64 s, .int .i64 n] 61)).heap.size := by simp; omega
                  have hrd5 := Rd.of_blk (Blk.new w5 61 [.int .i64 s, .int .i64 n]) (show w5.heap.size < w5.heap.size + 1 by omega) 2 1 1 rfl (by decide) (by decide)
                  clear ho5 hu5 hb5
                  go_wp2_with (at_builtin; go_must (refine wpList_append_rd _ rfl _ _ _ rfl w.heap.size _ _ _ el_pairs _ _ _ rfl hoA5 (w5.heap.size + 1) _ _ _ rfl hrd5 (by intro u hu; simp at hu; rcases hu with rfl | rfl <;> rfl) hbyt5 hbase5 ?_))
                  intro v6 w6 hown6 hgr6 _
                  have hu6 := (HU5.out.alloc (.cells #[.int .i64 s, .int .i64 n] 61)).kept hgr6 (own_ne (HU5.out.alloc _) hoA5 (by decide))
                  have hb6 : Below w.heap.size w w6 := (HB5.out.alloc (by omega) _).grown hgr6 hbase5 (own_base hoA5)
                  have HO6 := hide hown6
                  have HU6 := hide hu6
                  have HB6 := hide hb6
                  have hsz6 := hb6.size
                  have hoA6 := hu6.alloc (.cells #[.int .i64 n] 3)
                  have hbyt6 : (us.length + 1) * 8 ≤ 140737488355328 := by omega
                  have hbase6 : w.heap.size ≤ (w6.alloc (.cells #[.int .i64 n] 3)).heap.size := by simp; omega
                  clear hown6 hgr6 hoA5 hrd5 hu6 hb6
                  go_wp2_with (at_builtin; go_must (refine wpList_append_rd _ rfl _ _ _ rfl w.heap.size _ _ _ el_ints _ _ _ rfl hoA6 (w6.heap.size + 1) _ _ _ rfl (Rd.one w6 3 _) (by intro u hu; obtain rfl := List.mem_singleton.1 hu; rfl) hbyt6 hbase6 ?_))
                  intro v7 w7 hown7 hgr7 _
                  have HO7 := hide ((HO6.out.alloc (.cells #[.int .i64 n] 3)).kept hgr7 (own_ne (HO6.out.alloc _) hoA6 (by decide)))
                  have HU7 := hide hown7
                  have HB7 := hide (show Below w.heap.size w w7 from (HB6.out.alloc (by omega) _).grown hgr7 hbase6 (own_base hoA6))
                  clear hown7 hgr7 hoA6
                  go_wp2_with fail
                  go_roundw
                  case rel =>
                    refine ⟨s + 1, by omega, by go_num, ?_, ?_, ?_, HB7.out⟩
                    · unfold Prs
                      rw [hnext.out, HOS.out]
                      simp only [flat2_snoc, List.length_append, List.length_singleton]
                      exact HO7.out
                    · rw [hnext.out, HOS.out]
                      simp only [List.map_append, HUS.out, List.length_append, List.map_cons, List.map_nil, List.length_singleton]
                      exact HU7.out
                    · rw [hnext.out]
                      go_num
                  case measure => simp [intOf]; omega
                · have hq' : ((q : Int) == (left : Int) - 1) = false := by rw [beq_eq_false_iff_ne]; omega
                  have hqd : decide (q + 1 = left) = false := by simpa using hq
                  have HQD := hide hqd
                  clear hqd hq
                  go_wp2_with fail
                  go_roundw
                  case rel =>
                    refine ⟨n + 1, by omega, by go_num, fun m hm => ?_, rfl, HST5.out⟩
                    rcases Nat.lt_or_ge m n with h | h
                    · exact HNO.out m h
                    · have : m = n := by omega
                      subst this
                      rw [HOK.out, HQD.out]
                  case measure => simp [intOf]; omega
            · have hb : decide ((n : Int) ∈ l[s]) = false := by simpa using hin
              rw [hb]
              have HIN := hide hb
              clear hb hin
              go_wp2_with fail
              go_roundw
              case rel =>
                refine ⟨n + 1, by omega, by go_num, fun m hm => ?_, rfl, HST.out⟩
                rcases Nat.lt_or_ge m n with h | h
                · exact HNO.out m h
                · have : m = n := by omega
                  subst this
                  unfold prOk
                  rw [getD_eq _ _ _ hlt, HIN.out]
                  simp
              case measure => simp [intOf]; omega
          · have hnext := hide (show prTo l (s + 1) = prTo l s by
              rw [prTo_succ, prStep, HL.out, if_neg (by omega), find_range_none _ 16 (fun m hm => HNO.out m (by omega))])
            go_wp2_with fail
            go_roundw
            case rel =>
              refine ⟨s + 1, by omega, by go_num, ?_, ?_, ?_, ?_⟩
              · rw [hnext.out]; exact HST.out.out
              · rw [hnext.out]; exact HST.out.used
              · rw [hnext.out, HL.out]
              · exact HST.out.below
            case measure => simp [intOf]; omega
      · have e : pairsF l = (prTo l s).1 := by
          have := prTo_done l s (l.length - s) (by rw [HL.out]; omega)
          rw [show s + (l.length - s) = l.length from by omega] at this
          unfold pairsF
          rw [this]
        go_wp2_with fail
        go_ret
        exact ⟨_, rfl, by rw [e]; exact HST.out.out, HST.out.below⟩
    · have e : s = l.length := by omega
      subst e
      go_wp2_with fail
      go_ret
      exact ⟨_, rfl, HST.out.out, HST.out.below⟩
end Go.Proofs.YtgjepahhbecljaaDoor

namespace Go.Proofs.YtgjepahhbecljaaDoor
open Go Go.RowKit
def rowI (h : Nat) : List Int := (List.range h).map fun (i : Nat) => (i : Int)
def fullL (s h : Nat) : List (List Int) := List.replicate s (rowI h)
def cnt (h : Nat) (U : Nat → Bool) : Nat := (List.range h).countP fun n => !U n
theorem mem_rowI (h : Nat) (x : Int) : x ∈ rowI h ↔ 0 ≤ x ∧ x < h := by
  unfold rowI
  rw [List.mem_map]
  constructor
  · rintro ⟨i, hi, rfl⟩
    have := List.mem_range.1 hi
    omega
  · rintro ⟨h0, h1⟩
    exact ⟨x.toNat, List.mem_range.2 (by omega), by omega⟩
theorem cnt_succ (h : Nat) (U : Nat → Bool) : cnt (h + 1) U = cnt h U + if U h then 0 else 1 := by
  unfold cnt
  rw [List.range_succ, List.countP_append]
  cases hU : U h <;> simp [hU]
theorem cnt_upd (U : Nat → Bool) (n : Nat) (hn : U n = false) : ∀ h, cnt h (fun x => U x || x == n) + (if n < h then 1 else 0) = cnt h U
  | 0 => by simp [cnt]
  | h + 1 => by
    have ih := cnt_upd U n hn h
    rw [cnt_succ, cnt_succ, ← ih]
    by_cases e : h = n
    · subst e
      rw [if_neg (show ¬ h < h by omega), if_pos (show h < h + 1 by omega), hn]
      simp
    · have hb : (h == n) = false := by simp [e]
      rw [hb, Bool.or_false]
      by_cases hl : n < h
      · rw [if_pos hl, if_pos (show n < h + 1 by omega)]; omega
      · rw [if_neg hl, if_neg (show ¬ n < h + 1 by omega)]; omega
theorem cnt_pos {h : Nat} {U : Nat → Bool} (hp : 0 < cnt h U) : ∃ n, n < h ∧ U n = false := by
  unfold cnt at hp
  obtain ⟨n, hn, hu⟩ := List.countP_pos_iff.1 hp
  exact ⟨n, List.mem_range.1 hn, by simpa using hu⟩
theorem mm_full (h : Nat) (hh : h ≤ 16) : ∀ (s : Nat) (U : Nat → Bool), mmR (fullL s h) U = min s (cnt h U)
  | 0, U => by simp [fullL, mmR]
  | s + 1, U => by
    have ih := mm_full h hh s
    show mmR (rowI h :: fullL s h) U = _
    rw [mmR]
    obtain ⟨f1, f2, f3⟩ := fold_max (fun n => 0 ≤ n ∧ n < 16 ∧ U n.toNat = false) (fun n => 1 + mmR (fullL s h) (fun x => U x || x == n.toNat)) (rowI h) (mmR (fullL s h) U)
    generalize (rowI h).foldl (fun best n => if 0 ≤ n ∧ n < 16 ∧ U n.toNat = false then max best (1 + mmR (fullL s h) (fun x => U x || x == n.toNat)) else best) (mmR (fullL s h) U) = R at f1 f2 f3
    rw [ih U] at f1 f3
    have hval : ∀ n ∈ rowI h, (0 ≤ n ∧ n < 16 ∧ U n.toNat = false) → 1 + mmR (fullL s h) (fun x => U x || x == n.toNat) = 1 + min s (cnt h U - 1) ∧ 0 < cnt h U := fun n hn hc => by
      have hu := cnt_upd U n.toNat hc.2.2 h
      have hr := (mem_rowI h n).1 hn
      rw [if_pos (by omega)] at hu
      rw [ih]
      constructor
      · congr 2; omega
      · omega
    by_cases hc : 0 < cnt h U
    · obtain ⟨n, hn, hU⟩ := cnt_pos hc
      have h1 := f2 (n : Int) ((mem_rowI h _).2 (by omega)) ⟨by omega, by omega, by simpa using hU⟩
      have h2 := (hval (n : Int) ((mem_rowI h _).2 (by omega)) ⟨by omega, by omega, by simpa using hU⟩).1
      simp only [h2] at h1
      rcases f3 with f3 | ⟨n', hn', hc', f3⟩
      · omega
      · rw [(hval n' hn' hc').1] at f3; omega
    · rcases f3 with f3 | ⟨n', hn', hc', f3⟩
      · omega
      · have := (hval n' hn' hc').2; omega
theorem cnt_below (k : Nat) : ∀ h, cnt h (fun x => decide (x < k)) = h - k
  | 0 => by simp [cnt]
  | h + 1 => by
    rw [cnt_succ, cnt_below k h]
    by_cases e : h < k
    · rw [if_pos (by simpa using e)]; omega
    · rw [if_neg (by simpa using e)]; omega
theorem mm_fullAll (s h : Nat) (hh : h ≤ 16) : (mmR (fullL s h) fun _ => false) = min s h := by
  rw [mm_full h hh]
  congr 1
  have := cnt_below 0 h
  simpa using this
theorem mm_nil : ∀ (l : List (List Int)) (U : Nat → Bool), mmR (l ++ [[]]) U = mmR l U
  | [], U => rfl
  | r :: rs, U => by
    show mmR (r :: (rs ++ [[]])) U = _
    rw [mmR, mmR]
    have e : mmR (rs ++ [[]]) = mmR rs := funext fun U => mm_nil rs U
    rw [e]
def diag (m : Nat) : List (Int × Int) := (List.range m).map fun (i : Nat) => ((i : Int), (i : Int))
theorem diag_two (m : Nat) : (diag m).map (·.2) = rowI m := by unfold diag rowI; rw [List.map_map]; rfl
theorem diag_succ (m : Nat) : diag (m + 1) = diag m ++ [((m : Int), (m : Int))] := by unfold diag; rw [List.range_succ, List.map_append]; rfl
theorem rowI_succ (m : Nat) : rowI (m + 1) = rowI m ++ [(m : Int)] := by unfold rowI; rw [List.range_succ, List.map_append]; rfl
theorem full_prTo (s h : Nat) (hh : h ≤ 16) : ∀ t, t ≤ s → prTo (fullL s h) t = (diag (min t h), min s h - min t h)
  | 0, _ => by
    unfold prTo
    rw [mm_fullAll s h hh]
    simp [diag]
  | t + 1, ht => by
    rw [prTo_succ, full_prTo s h hh t (by omega)]
    unfold prStep
    by_cases h0 : t < h
    · have hl : min s h - min t h ≠ 0 := by omega
      rw [if_neg hl]
      have hrow : (fullL s h).getD t [] = rowI h := by unfold fullL; rw [List.getD_eq_getElem?_getD, List.getElem?_replicate, if_pos (by omega)]; rfl
      have hfind : (List.range 16).find? (prOk (fullL s h) t ((diag (min t h)).map (·.2)) (min s h - min t h)) = some t := by
        refine find_range_some _ 16 t (by omega) (fun n hn => ?_) ?_
        · unfold prOk
          rw [diag_two, hrow]
          have : (n : Int) ∈ rowI (min t h) := (mem_rowI _ _).2 (by omega)
          simp [this]
        · unfold prOk
          rw [diag_two, hrow]
          have h1 : (t : Int) ∈ rowI h := (mem_rowI _ _).2 (by omega)
          have h2 : (t : Int) ∉ rowI (min t h) := fun hm => by have := (mem_rowI _ _).1 hm; omega
          have h3 : mmR ((fullL s h).drop (t + 1)) (fun x => decide ((x : Int) ∈ rowI (min t h)) || x == t) + 1 = min s h - min t h := by
            have hd : (fullL s h).drop (t + 1) = fullL (s - (t + 1)) h := by unfold fullL; rw [List.drop_replicate]
            rw [hd, mm_full h hh]
            have hU : (fun x : Nat => decide ((x : Int) ∈ rowI (min t h)) || x == t) = fun x => decide (x < t + 1) := by
              funext x
              have hb : (x == t) = decide (x = t) := rfl
              rw [Nat.min_eq_left (by omega), hb, ← Bool.decide_or]
              exact decide_eq_decide.2 ((or_congr (mem_rowI _ _) Iff.rfl).trans (by omega))
            rw [hU, cnt_below]
            omega
          rw [decide_eq_true h1, decide_eq_false h2, decide_eq_true h3]
          rfl
      rw [hfind, Nat.min_eq_left (show t ≤ h by omega), Nat.min_eq_left (show t + 1 ≤ h by omega), diag_succ]
      show (_, _) = (_, _)
      congr 1 <;> omega
    · have hl : min s h - min t h = 0 := by omega
      rw [if_pos hl]
      rw [Nat.min_eq_right (show h ≤ t by omega), Nat.min_eq_right (show h ≤ t + 1 by omega)]
theorem pairs_full (s h : Nat) (hh : h ≤ 16) : pairsF (fullL s h) = diag (min s h) := by
  unfold pairsF
  have hl : (fullL s h).length = s := by simp [fullL]
  rw [hl, full_prTo s h hh s (Nat.le_refl _)]
/-- One server more: it stands somewhere between. -/
theorem order_more (idx : List Int) (s : Nat) (hs : s < 8) : ∃ p ≤ s, orderF ((s : Nat) : Int) idx = (orderF (s : Int) idx) ∧ (orderF ((s + 1 : Nat) : Int) idx) = (orderF (s : Int) idx).take p ++ (s : Int) :: (orderF (s : Int) idx).drop p := by
  have e1 : ordN (s : Int) = s := by unfold ordN; omega
  have e2 : ordN ((s + 1 : Nat) : Int) = s + 1 := by unfold ordN; omega
  refine ⟨Heap.posK (Heap.ordT (ordH idx) s) (ordH idx s) s, Heap.posK_le _ _ _, rfl, ?_⟩
  unfold orderF
  rw [e1, e2]
  show ((Heap.insT (Heap.ordT (ordH idx) s) ((s : Int), ordH idx s)).map Prod.fst) = _
  unfold Heap.insT
  rw [Heap.ordT_len]
  simp [List.map_append, List.map_take, List.map_drop]
end Go.Proofs.YtgjepahhbecljaaDoor
