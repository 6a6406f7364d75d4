/- The first rows of pairs, as a function; plain law. No program in sight but for the words. -/
import Derived.Test.YtoicohcomjnnfaaRefMatch
import Derived.Test.YtoicohcomjnnfaaWithout
namespace Go.Proofs.Ytoicohcomjnnfaa
open Go Go.RowKit

def prOk (l : List (List Int)) (s : Nat) (used : List Int) (left : Nat) (n : Nat) : Bool :=
  decide ((n : Int) ∈ l.getD s []) && !decide ((n : Int) ∈ used) && decide (mmR (l.drop (s + 1)) (fun x => decide ((x : Int) ∈ used) || x == n) + 1 = left)
def prStep (l : List (List Int)) (st : List (Int × Int) × Nat) (s : Nat) : List (Int × Int) × Nat :=
  if st.2 = 0 then st else
  match (List.range 16).find? (prOk l s (st.1.map (·.2)) st.2) with
  | none => st
  | some n => (st.1 ++ [((s : Int), (n : Int))], st.2 - 1)
def prTo (l : List (List Int)) (s : Nat) : List (Int × Int) × Nat := (List.range s).foldl (prStep l) ([], mmR l fun _ => false)
def pairsF (l : List (List Int)) : List (Int × Int) := (prTo l l.length).1

theorem prTo_succ (l : List (List Int)) (s : Nat) : prTo l (s + 1) = prStep l (prTo l s) s := by
  unfold prTo
  rw [List.range_succ, List.foldl_append]
  rfl
theorem prStep_sum (l : List (List Int)) (st : List (Int × Int) × Nat) (s : Nat) : (prStep l st s).1.length + (prStep l st s).2 = st.1.length + st.2 := by
  unfold prStep
  split
  · rfl
  · split
    · rfl
    · simp; omega
theorem prTo_sum (l : List (List Int)) (s : Nat) : (prTo l s).1.length + (prTo l s).2 ≤ 16 := by
  have : (prTo l s).1.length + (prTo l s).2 = mmR l fun _ => false := by
    induction s with
    | zero => simp [prTo]
    | succ s ih => rw [prTo_succ, prStep_sum, ih]
  have := mmR_le16 l fun _ => false
  omega
/-- Once nothing is left, nothing turns any more. -/
theorem prTo_done (l : List (List Int)) (s k : Nat) (h : (prTo l s).2 = 0) : prTo l (s + k) = prTo l s := by
  induction k with
  | zero => rfl
  | succ k ih =>
    rw [← Nat.add_assoc, prTo_succ, ih, prStep, if_pos h]

theorem find_range_none (p : Nat → Bool) (N : Nat) (h : ∀ n, n < N → p n = false) : (List.range N).find? p = none := by
  rw [List.find?_eq_none]
  intro n hn
  rw [h n (List.mem_range.1 hn)]
  simp
theorem find_range_some (p : Nat → Bool) (N n : Nat) (hn : n < N) (h : ∀ m, m < n → p m = false) (hp : p n = true) : (List.range N).find? p = some n := by
  rw [List.find?_range_eq_some]
  refine ⟨hp, List.mem_range.2 hn, fun m hm => ?_⟩
  rw [h m hm]; rfl

theorem mem_without (l : List (List Int)) (from_ : Nat) (sh : List Int) (t : Nat) (x : Int) : x ∈ (withoutF l from_ sh).getD t [] ↔ (from_ ≤ t ∧ x ∈ l.getD t [] ∧ x ∉ sh) := by
  unfold withoutF
  rw [List.getD_eq_getElem?_getD, List.getElem?_map, List.getElem?_zipIdx, List.getD_eq_getElem?_getD]
  rcases h : l[t]? with _ | r
  · simp
  · simp only [Option.map_some, Option.getD_some, woRow, Nat.zero_add]
    by_cases hf : from_ ≤ t
    · rw [if_pos (by omega)]
      simp [hf]
    · rw [if_neg (by omega)]
      simp [hf]

theorem mm_without (l : List (List Int)) (from_ : Nat) (sh : List Int) (hf : from_ ≤ l.length) : (mmR (withoutF l from_ sh) fun _ => false) = mmR (l.drop from_) (fun x => decide ((x : Int) ∈ sh)) := by
  have h1 := mmR_max (withoutF l from_ sh)
  have h2 := mmR_isMax l _ from_ (fun x => decide ((x : Int) ∈ sh)) rfl hf
  have hl : (withoutF l from_ sh).length = l.length := by simp [withoutF]
  refine h1.uniq (h2.congr fun f => ⟨fun h => ⟨fun n hn h0 => ?_, h.inj⟩, fun h => ⟨fun n hn h0 => ?_, h.inj⟩⟩)
  · obtain ⟨a, b, c⟩ := h.ok n hn h0
    exact ⟨by omega, (mem_without _ _ _ _ _).2 ⟨a.1, b, by simpa using c⟩, fun h => h⟩
  · obtain ⟨a, b, c⟩ := h.ok n hn h0
    obtain ⟨d, e, g⟩ := (mem_without _ _ _ _ _).1 b
    exact ⟨⟨d, by omega⟩, e, by simpa using g⟩

theorem few_without {l : List (List Int)} (h : Few l) (from_ : Int) (sh : List Int) : Few (withoutF l from_ sh) := by
  refine ⟨by simpa [withoutF] using h.1, fun r hr => ?_⟩
  unfold withoutF at hr
  obtain ⟨p, hp, rfl⟩ := List.mem_map.1 hr
  unfold woRow
  split
  · exact Nat.le_trans (List.length_filter_le _ _) (h.2 _ (by
      obtain ⟨a, b⟩ := p
      have := List.mem_zipIdx hp
      rw [this.2.2]; exact List.getElem_mem _))
  · simp

/-- A row of pairs in memory, a row of the call's own. -/
def flat2 (ps : List (Int × Int)) : List Value := ps.flatMap fun p => [.int .i64 p.1, .int .i64 p.2]
theorem flat2_len (ps : List (Int × Int)) : (flat2 ps).length = ps.length * 2 := by
  induction ps with
  | nil => rfl
  | cons p ps ih => simp only [flat2, List.flatMap_cons, List.length_append, List.length_cons] at ih ⊢; simp at ih ⊢; omega
theorem flat2_snoc (ps : List (Int × Int)) (p : Int × Int) : flat2 (ps ++ [p]) = flat2 ps ++ [.int .i64 p.1, .int .i64 p.2] := by simp [flat2]
theorem el_pairs : ElemOf Try.prog 32 37 2 16 := elem_of (z := .agg #[.int .i64 0, .int .i64 0]) rfl (by kernel_rfl) rfl (by decide) (by decide)
def Prs (w : World) (base : Nat) (v : Value) (ps : List (Int × Int)) : Prop := w.ownsRow base 37 2 v ps.length (flat2 ps)
end Go.Proofs.Ytoicohcomjnnfaa
