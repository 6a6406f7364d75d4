/- code.TakeNets: just so many rows. Condition: at most a million rows; at most 2^40 bytes. -/
import Derived.Test.YtijhcdmjiclnnaaDoorRowsB
import Derived.Test.YtijhcdmjiclnnaaDoorTake
namespace Go.Proofs.YtijhcdmjiclnnaaDoor
open Go Go.RowKit

def takesI (n : Int) (b : List Int) : Option (List (List Int)) := if n < 0 then none else takesF n.toNat b
/-- What TakeNets answers. -/
def TakesPost (w : World) (n : Int) (xs : List Int) (e : Ending) (w' : World) : Prop :=
  (∃ v l, takesI n xs = some l ∧ e = .returned (.tuple #[v, .bool true]) ∧ OwnRows w' w.heap.size v l ∧ Below w.heap.size w w') ∨
  (takesI n xs = none ∧ e = .returned (.tuple #[.slice none 0 0, .bool false]) ∧ Below w.heap.size w w')

theorem take_len {b x r : List Int} (h : takeF b = some (x, r)) : r.length ≤ b.length ∧ x.length ≤ b.length := by
  have := (take_sound b x r h).1
  rw [this, List.length_append, netF]
  simp; omega

set_option maxHeartbeats 2000000 in
theorem TakeNets_any (v : Value) (xs : List Int) (k : Int) (w : World) (hv : Bs w w.heap.size v xs) (hb : Bytes xs) (hn : xs.length ≤ 1099511627776) (hk : -9223372036854775808 ≤ k ∧ k ≤ 1000000) :
    Calls Tryd.prog 37 #[v, .int .i64 k] w (TakesPost w k xs) := by
  have HV := hide hv
  have HBX := hide hb
  obtain ⟨A, c, rfl, h1, h2, h3⟩ := hv.open_
  obtain ⟨hk1, hk2⟩ := hk
  clear h1 h2 h3 hv hb
  go_enter Tryd.func37, Tryd.ntmps37
  by_cases hneg : k < 0
  · have HNO := hide (show takesI k xs = none by rw [takesI, if_pos hneg])
    go_wp2_with fail
    go_ret2
    exact .inr ⟨HNO.out, rfl, Below.refl _ _⟩
  obtain ⟨n, rfl⟩ := Int.eq_ofNat_of_zero_le (show 0 ≤ k by omega)
  have HI := hide (show takesI (n : Int) xs = takesF n xs by rw [takesI, if_neg (by omega)]; rfl)
  have hn6 : n ≤ 1000000 := by omega
  obtain ⟨R, HR⟩ : ∃ r, Hid (takesI (n : Int) xs = r) := ⟨_, hide rfl⟩
  have HR0 := hide (show (takesF (n - 0) xs).map ([] ++ ·) = R by
    rw [← HR.out, HI.out, Nat.sub_zero]
    cases takesF n xs <;> rfl)
  clear HI hk1 hk2
  go_wp2_with fail
  go_loopw [0, 4, 12] (fun v0 v4 v12 wr => ∃ (i : Nat) (rest : List Int) (items : List (List Int)), i ≤ n ∧ v12 = .int .i64 i ∧ Bs wr wr.heap.size v0 rest ∧ Bytes rest ∧ rest.length ≤ 1099511627776 ∧ OwnRows wr w.heap.size v4 items ∧ items.length = i ∧ (takesF (n - i) rest).map (items ++ ·) = R ∧ Below w.heap.size w wr) (fun _ _ v12 _ => n - (intOf v12).toNat)
  case atStart => exact ⟨0, xs, [], by omega, rfl, HV.out, HBX.out, hn, OwnRows.nil_ _ _, rfl, HR0.out, Below.refl _ _⟩
  case round =>
    obtain ⟨i, rest, items, hi, rfl, hbs, hby, hrl, ho, hil, hT, hbel⟩ := hrel
    have HBS := hide hbs
    have HBY := hide hby
    have HO := hide ho
    have HTT := hide hT
    have HB := hide hbel
    have hwz := hbel.size
    clear hbs hby ho hT hbel
    by_cases hit : i < n
    · have i1 : (i : Int) < (n : Int) := by omega
      have HCALL := hide (TakeNet_any _ rest wr HBS.out HBY.out hrl)
      go_wp2_with fail
      refine HCALL.out.mono ?_
      rintro e w1 (⟨v1, v2, x, r, ht, rfl, ho1, ho2, hb1⟩ | ⟨ht, rfl, rfl⟩)
      · have HO1 := hide (ho1.more hwz)
        have HO2 := hide ho2
        have hz1 := hb1.size
        have HB1 := hide (HB.out.trans (hb1.mono hwz))
        have HOW := hide (HO.out.keptB hb1 hwz)
        have hll := (take_len ht).1
        have HTN := hide (show (takesF (n - (i + 1)) r).map ((items ++ [x]) ++ ·) = R by
          have h := HTT.out
          rw [show n - i = (n - (i + 1)) + 1 by omega, takesF, ht, Option.bind_some, Option.map_map] at h
          rw [← h]
          simp only [Function.comp_def, List.append_assoc, List.singleton_append])
        have HBR := hide ho2.bytes
        obtain ⟨A1, c1, rfl⟩ := ho1.shape
        clear ho1 ho2 hb1 ht HCALL HO HB HTT HBS HBY
        go_wp2_with (at_builtin; go_must (refine wpList_append_row rfl _ _ rfl w.heap.size _ items rfl HOW.out (by omega) _ x (.inr HO1.out) rfl (by omega) ?_); intro v25 w2 ho25 hb25 hk25; have HO25 := hide ho25; have HB25 := hide (HB1.out.trans hb25); have HOR := hide (hk25 _ _ _ HO2.out); clear ho25 hb25 hk25)
        go_roundw
        case measure => simp [intOf]; omega
        case rel => exact ⟨i + 1, r, items ++ [x], by omega, by go_num, HOR.out.reads, HBR.out, by omega, HO25.out, by simp [hil], HTN.out, HB25.out⟩
      · have HNO := hide (show takesI (n : Int) xs = none by
          rw [HR.out, ← HTT.out, show n - i = (n - (i + 1)) + 1 by omega, takesF, ht]; rfl)
        go_wp2_with fail
        go_ret2
        exact .inr ⟨HNO.out, rfl, HB.out⟩
    · have e : i = n := by omega
      subst e
      have i1 : ¬ (i : Int) < (i : Int) := by omega
      obtain ⟨A1, c1, rfl, g1, g2, g3⟩ := HBS.out.open_
      have HTZ := hide (show (takesF 0 rest).map (items ++ ·) = R by have := HTT.out; rwa [Nat.sub_self] at this)
      clear g3
      by_cases hre : rest = []
      · have HYES := hide (show takesI (i : Int) xs = some items by rw [HR.out, ← HTZ.out, takesF, if_pos hre]; simp)
        subst hre
        go_wp2_with fail
        go_ret2
        exact .inl ⟨_, items, HYES.out, rfl, HO.out, HB.out⟩
      · have HNO := hide (show takesI (i : Int) xs = none by rw [HR.out, ← HTZ.out, takesF, if_neg hre]; rfl)
        have hp : (0 : Int) < (rest.length : Int) := by have := List.length_pos_iff.2 hre; omega
        go_wp2_with fail
        go_ret2
        exact .inr ⟨HNO.out, rfl, HB.out⟩
end Go.Proofs.YtijhcdmjiclnnaaDoor
