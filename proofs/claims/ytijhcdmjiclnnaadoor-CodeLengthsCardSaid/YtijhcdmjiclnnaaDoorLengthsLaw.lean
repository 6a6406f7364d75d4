/- Lengths with noughts ahead, too great ones, and another sign at the end: none. -/
import Derived.Test.YtijhcdmjiclnnaaDoorNetLaw
namespace Go.Proofs.YtijhcdmjiclnnaaDoor
open Go Go.RowKit

theorem szF_ge : ∀ (b : List Int) (n d : Nat), d ≤ (szF n d b).2
  | [], n, d => Nat.le_refl _
  | c :: cs, n, d => by
    rw [szF]
    split
    · have := szF_ge cs (10 * n + (c - 48).toNat) (d + 1); omega
    · exact Nat.le_refl _
theorem take_nought (c : Int) (hc : isDg c) (r : List Int) : takeF (48 :: c :: r) = none := by
  have h1 : szF 0 0 (48 :: c :: r) = szF (c - 48).toNat 2 r := by
    rw [szF, if_pos ⟨by unfold isDg; omega, by omega⟩, szF, if_pos ⟨hc, by omega⟩, show 10 * (10 * 0 + ((48 : Int) - 48).toNat) + (c - 48).toNat = (c - 48).toNat by simp]
  have h2 := szF_ge r (c - 48).toNat 2
  unfold takeF
  rw [h1]
  simp only
  rw [if_pos]
  exact .inr (.inl ⟨by omega, rfl⟩)
theorem dgs_net (x : List Int) (t : List Int) : ∃ ds : List Nat, dgs (digB x.length ++ 58 :: t) = ds ∧ dval 0 ds = x.length ∧ 0 < ds.length ∧ digB x.length = ds.map (fun x => ((48 + x : Nat) : Int)) := by
  obtain ⟨ds, h1, h2, h3, h4, _⟩ := dec_digits x.length
  have hdig := dec_canon ds.length ds rfl h1 h2 h3
  rw [h4] at hdig
  refine ⟨ds, ?_, h4, h1, hdig⟩
  rw [hdig, dgs_map ds _ h2]
theorem take_great (x t : List Int) (h : 16384 < x.length) : takeF (digB x.length ++ 58 :: t) = none := by
  obtain ⟨ds, h1, h2, _, _⟩ := dgs_net x t
  have := szF_great (digB x.length ++ 58 :: t) 0 0 (by rw [h1, h2]; exact h)
  unfold takeF
  simp only
  rw [if_pos (.inr (.inr this))]
theorem take_other (x r : List Int) (c : Int) (hc : c ≠ 44) (h : x.length ≤ 16384) : takeF (digB x.length ++ 58 :: (x ++ c :: r)) = none := by
  obtain ⟨ds, h1, h2, _, h3⟩ := dgs_net x (x ++ c :: r)
  have hs := szF_small (digB x.length ++ 58 :: (x ++ c :: r)) 0 0 (by rw [h1, h2]; exact h)
  rw [h1, h2, Nat.zero_add] at hs
  have hge : (digB x.length ++ 58 :: (x ++ c :: r)).getD (ds.length + 1 + x.length) 0 = c := by
    rw [h3, List.getD_eq_getElem?_getD, List.getElem?_append_right (by simp; omega)]
    rw [show ds.length + 1 + x.length - (ds.map fun x => ((48 + x : Nat) : Int)).length = x.length + 1 by simp; omega, List.getElem?_cons_succ, List.getElem?_append_right (Nat.le_refl _), Nat.sub_self]
    rfl
  unfold takeF
  rw [hs]
  simp only
  split
  · rfl
  · rw [if_pos (.inr (.inr (by rw [hge]; exact hc)))]
end Go.Proofs.YtijhcdmjiclnnaaDoor
