/- What the document takes a text for, case by case; a capability's bytes written one by one. -/
import Derived.Test.YtgjepahhbecljaaDoorParseGr
namespace Go.Proofs.YtgjepahhbecljaaDoor
open Go Go.RowKit

section
variable {s : List Int} {L : List (List Int)} (hL : splitF s = L)
include hL
theorem candq_short (h : L.length < 3) : candQ s = none := by
  subst hL; unfold candQ; simp only; rw [if_pos h]
theorem candq_lit {a : List Int} (h : 3 ≤ L.length) (hb : (bytes32F (L.getD 2 [])).getD [] = a) (hk : kindF (L.getD 1 []) = 3) : candQ s = some ⟨3, zeros 16, zeros 32, 0, 0, 0, a⟩ := by
  subst hL hb; unfold candQ; simp only; rw [if_neg (by omega), if_pos hk]
theorem candq_bare {a : List Int} (h : 3 ≤ L.length) (hb : (bytes32F (L.getD 2 [])).getD [] = a) (hk : ¬ kindF (L.getD 1 []) = 3) (h4 : ¬ (a.length = 16 ∧ 3 < L.length)) : candQ s = some ⟨kindF (L.getD 1 []), zeros 16, zeros 32, 0, 0, 0, []⟩ := by
  subst hL hb; unfold candQ; simp only; rw [if_neg (by omega), if_neg hk, if_neg h4]
theorem candq_file {a f : List Int} (hb : (bytes32F (L.getD 2 [])).getD [] = a) (hf : (bytes32F (L.getD 3 [])).getD [] = f) (h16 : a.length = 16) (hk : kindF (L.getD 1 []) = 1 ∨ kindF (L.getD 1 []) = 2) (h6 : 6 < L.length) :
    candQ s = some ⟨kindF (L.getD 1 []), a, fill32 f, numQ (L.getD 4 []), numQ (L.getD 5 []), numQ (L.getD 6 []), []⟩ := by
  subst hL hb hf; unfold candQ; simp only; rw [if_neg (by omega), if_neg (by omega), if_pos ⟨h16, by omega⟩, if_pos ⟨hk, h6⟩]
theorem candq_slot {a f : List Int} (h : 3 < L.length) (hb : (bytes32F (L.getD 2 [])).getD [] = a) (hf : (bytes32F (L.getD 3 [])).getD [] = f) (h16 : a.length = 16) (hk : ¬ kindF (L.getD 1 []) = 3) (h6 : ¬ ((kindF (L.getD 1 []) = 1 ∨ kindF (L.getD 1 []) = 2) ∧ 6 < L.length)) :
    candQ s = some ⟨kindF (L.getD 1 []), a, fill32 f, 0, 0, 0, []⟩ := by
  subst hL hb hf; unfold candQ; simp only; rw [if_neg (by omega), if_neg hk, if_pos ⟨h16, by omega⟩, if_neg h6]
end
theorem parseq_none {s : List Int} (h : candQ s = none) : parseF s = none := by rw [← parse_ref]; unfold pick; rw [h]; rfl
theorem parseq_some {s : List Int} {c : CapD} (h : candQ s = some c) (hv : c.Valid) (hp : printF c = s) : parseF s = some c := by rw [← parse_ref]; unfold pick; rw [h, Option.bind_some, if_pos ⟨hv, hp⟩]
theorem parseq_not {s : List Int} {c : CapD} (h : candQ s = some c) (hn : ¬ (c.Valid ∧ printF c = s)) : parseF s = none := by rw [← parse_ref]; unfold pick; rw [h, Option.bind_some, if_neg hn]

/-- The first i bytes of a, filled up to n. -/
def fillN (a : List Int) (n i : Nat) : List Int := a.take i ++ zeros (n - i)
theorem fillN_zero (a : List Int) (n : Nat) : fillN a n 0 = zeros n := by simp [fillN]
theorem fillN_len {a : List Int} {n i : Nat} (h : i ≤ a.length) (hn : i ≤ n) : (fillN a n i).length = n := by simp [fillN]; omega
theorem fillN_set {a : List Int} {n i : Nat} (h : i < a.length) (hn : i < n) : (fillN a n i).set i (a.getD i 0) = fillN a n (i + 1) := by
  unfold fillN
  rw [List.set_append_right _ _ (by simp; omega), List.length_take, Nat.min_eq_left (by omega), Nat.sub_self, List.take_succ_eq_append_getElem h, getD_el' a i h,
    show n - i = (n - (i + 1)) + 1 by omega, zeros, zeros, List.replicate_succ, List.set_cons_zero, List.append_assoc, List.singleton_append]
theorem fillN_key {a : List Int} (h : a.length = 16) : fillN a 16 16 = a := by simp [fillN, List.take_of_length_le (Nat.le_of_eq h)]
theorem fillN_fp {f : List Int} {i : Nat} (hi : i ≤ f.length) (hn : i ≤ 32) (h : ¬ (i < f.length ∧ i < 32)) : fillN f 32 i = fill32 f := by
  unfold fillN fill32
  rcases Nat.lt_or_ge i 32 with h1 | h1
  · have : i = f.length := by omega
    subst this
    rw [List.take_of_length_le (Nat.le_refl _), List.take_of_length_le (by omega)]
  · have : i = 32 := by omega
    subst this
    rw [show 32 - f.length = 0 by omega, show 32 - 32 = 0 from rfl]

section
variable {ops : Array Oper} {rest : List Oper} {o : Oper} {a : Act} {w : World} {Q : Exit → Act → World → Prop} {g : Nat} {c : CapD} {lit : Value}
theorem size_u8 : (Tryd.prog.info? 5).map (·.size) = some 1 := by kernel_rfl
theorem cc_setKey {c : CapD} {lit : Value} (h1 : c.key.length = 16) (i : Nat) (hi : i < 16) (z : Int) : (capCells c lit).set (1 + i) (.int .u8 z) = capCells { c with key := c.key.set i z } lit := by
  unfold capCells
  rw [show 1 + i = i + 1 by omega, List.set_cons_succ, List.set_append_left _ _ (by rw [u8s_len]; omega), u8s_set]
theorem cc_setFp {c : CapD} {lit : Value} (h1 : c.key.length = 16) (h2 : c.fp.length = 32) (i : Nat) (hi : i < 32) (z : Int) : (capCells c lit).set (17 + i) (.int .u8 z) = capCells { c with fp := c.fp.set i z } lit := by
  unfold capCells
  rw [show 17 + i = (16 + i) + 1 by omega, List.set_cons_succ, List.set_append_right _ _ (by rw [u8s_len]; omega), u8s_len, h1, show 16 + i - 16 = i by omega, List.set_append_left _ _ (by rw [u8s_len]; omega), u8s_set]
theorem wpList_cap_putKeyAt (x y : Operand) (ho : o.op = .store 5 x y) (off : Nat) (hx : a.eval x = .pointer (some ⟨g, off, none⟩)) (hgd : o.guard = none) (hB : CapB w g c lit) (i : Nat) (hoff : off = 1 + i) (hi : i < 16) (z : Int) (hy : a.eval y = .int .u8 z)
    (h : ∀ w', CapB w' g { c with key := c.key.set i z } lit → w.grownBy w' (some g) → w'.heap.size = w.heap.size → wpList Tryd.prog ops Q rest (a.put o.dst undef) w') : wpList Tryd.prog ops Q (o :: rest) a w := by
  subst hoff
  have hg := grown_setCells (g := g) [Value.int .u8 z] w (1 + i)
  have hcell : w.cell? ⟨g, 1 + i, none⟩ = some ((capCells c lit)[1 + i]'(by rw [cc_len lit hB.keyL hB.fpL]; omega)) := by rw [hB.blk.cell]; exact List.getElem?_eq_getElem _
  refine wpList_plain hgd fun _ hK => wp_store_one _ x y ho g (1 + i) hx _ hy (by rw [hcell]; rfl) (hB.blk.frozen _) rfl size_u8 (hK _ _ (h _ ⟨?_, by show (c.key.set i z).length = 16; rw [List.length_set]; exact hB.keyL, hB.fpL, hB.one⟩ hg.1 hg.2))
  have := hB.blk.set_ (1 + i) (.int .u8 z)
  rw [cc_setKey hB.keyL i hi] at this
  exact this
theorem wpList_cap_putFpAt (x y : Operand) (ho : o.op = .store 5 x y) (off : Nat) (hx : a.eval x = .pointer (some ⟨g, off, none⟩)) (hgd : o.guard = none) (hB : CapB w g c lit) (i : Nat) (hoff : off = 17 + i) (hi : i < 32) (z : Int) (hy : a.eval y = .int .u8 z)
    (h : ∀ w', CapB w' g { c with fp := c.fp.set i z } lit → w.grownBy w' (some g) → w'.heap.size = w.heap.size → wpList Tryd.prog ops Q rest (a.put o.dst undef) w') : wpList Tryd.prog ops Q (o :: rest) a w := by
  subst hoff
  have hg := grown_setCells (g := g) [Value.int .u8 z] w (17 + i)
  have hcell : w.cell? ⟨g, 17 + i, none⟩ = some ((capCells c lit)[17 + i]'(by rw [cc_len lit hB.keyL hB.fpL]; omega)) := by rw [hB.blk.cell]; exact List.getElem?_eq_getElem _
  refine wpList_plain hgd fun _ hK => wp_store_one _ x y ho g (17 + i) hx _ hy (by rw [hcell]; rfl) (hB.blk.frozen _) rfl size_u8 (hK _ _ (h _ ⟨?_, hB.keyL, by show (c.fp.set i z).length = 32; rw [List.length_set]; exact hB.fpL, hB.one⟩ hg.1 hg.2))
  have := hB.blk.set_ (17 + i) (.int .u8 z)
  rw [cc_setFp hB.keyL hB.fpL i hi] at this
  exact this
end
end Go.Proofs.YtgjepahhbecljaaDoor
