/- The document's rows: all rows that bytes are, or that they are not. Condition: at most a million bytes.
The document's takeBlobs: blobs of rows, the first of which says how many there are. Condition: at most a million rows of at most 16384 bytes each.
The document's takeBlobs, each row of the call's own. Condition: at most a million rows of at most 16384 bytes each. -/
import Derived.Test.YtfinfkodjkfibaaDoorMsgLaws
import Derived.Test.YtfinfkodjkfibaaDoorRowsB
import Derived.Test.YtfinfkodjkfibaaDoorTakeRef
import Derived.Test.YtfinfkodjkfibaaDoorMsgWrite
import Derived.Test.YtfinfkodjkfibaaDoorBlobLit
import Derived.Test.YtfinfkodjkfibaaDoorSym
import Derived.Test.YtfinfkodjkfibaaDoorHeldAll
namespace Go.Proofs.YtfinfkodjkfibaaDoor
open Go Go.RowKit
set_option linter.unusedVariables false
set_option linter.unusedSimpArgs false
set_option maxRecDepth 100000
theorem Msg.rowsF_take {b x r : List Int} (h : takeF b = some (x, r)) : Msg.rowsF b = (Msg.rowsF r).map (x :: ·) := by
  obtain ⟨e1, e2⟩ := take_sound _ _ _ h
  rcases hr : Msg.rowsF r with _ | l
  · rcases hb : Msg.rowsF b with _ | l
    · rfl
    · exfalso
      obtain ⟨f1, f2⟩ := (Msg.rows_iff b l).1 hb
      rcases l with _ | ⟨y, l⟩
      · rw [f1] at h; cases h
      · have ht := take_net y (netsF l) (f2 y List.mem_cons_self)
        rw [← Msg.netsF_cons, ← f1, h] at ht
        injection ht with ht
        injection ht with h1 h2
        rw [(Msg.rows_iff r l).2 ⟨h2, fun z hz => f2 z (List.mem_cons_of_mem _ hz)⟩] at hr
        cases hr
  · obtain ⟨f1, f2⟩ := (Msg.rows_iff r l).1 hr
    refine (Msg.rows_iff b (x :: l)).2 ⟨by rw [Msg.netsF_cons, ← f1, e1], fun z hz => ?_⟩
    rcases List.mem_cons.1 hz with rfl | hz
    · exact e2
    · exact f2 z hz
theorem Msg.rowsF_none {b : List Int} (h : takeF b = none) (h0 : 0 < b.length) : Msg.rowsF b = none := by
  rcases b with _ | ⟨c, cs⟩
  · simp at h0
  · show Msg.rowsN (cs.length + 1) (c :: cs) = none
    rw [Msg.rowsN, h]; rfl
theorem take_lt {b x r : List Int} (h : takeF b = some (x, r)) : r.length < b.length := by
  have h1 := (take_sound b x r h).1
  have h2 := netF_pos x
  have h3 : b.length = (netF x).length + r.length := by conv => lhs; rw [h1, List.length_append]
  omega
def lenS : Value → Nat
  | .slice _ n _ => n
  | _ => 0
/-- What rows answers. -/
def RowsRes (w w' : World) (e : Ending) (r : Option (List (List Int))) : Prop :=
  (∃ v l, r = some l ∧ e = .returned (.tuple #[v, .bool true]) ∧ RowsB w' w'.heap.size v l ∧ Below w.heap.size w w') ∨
  (r = none ∧ e = .returned (.tuple #[.slice none 0 0, .bool false]) ∧ Below w.heap.size w w')
set_option maxHeartbeats 2000000 in
theorem rows_ref (v : Value) (xs : List Int) (w : World) (hv : Bs w w.heap.size v xs) (hb : Bytes xs) (hn : xs.length ≤ 1000000) :
    Calls Tryd.prog 37 #[v] w fun e w' => RowsRes w w' e (Msg.rowsF xs) := by
  have HV := hide hv
  have HBX := hide hb
  obtain ⟨A, c, rfl, h1, h2, h3⟩ := hv.open_
  obtain ⟨R, HR⟩ : ∃ r, Hid (Msg.rowsF xs = r) := ⟨_, hide rfl⟩
  have HR0 := hide (show (Msg.rowsF xs).map ([] ++ ·) = R by
    rw [← HR.out]
    cases Msg.rowsF xs <;> rfl)
  rw [HR.out]
  unfold maxLen at h2
  obtain ⟨n, HN⟩ : ∃ n, Hid (xs.length = n) := ⟨_, hide rfl⟩
  rw [HN.out] at h1 hn HV ⊢
  have hxn : xs.length ≤ n := by rw [HN.out]; exact Nat.le_refl _
  clear h3 hv hb
  go_enter Tryd.func37, Tryd.ntmps37
  go_wp2_with fail
  go_loopw [0, 4] (fun v0 v4 wr => ∃ (rest : List Int) (items : List (List Int)), Bs wr w.heap.size v0 rest ∧ Bytes rest ∧ rest.length + items.length ≤ n ∧ OwnRows wr w.heap.size v4 items ∧ (Msg.rowsF rest).map (items ++ ·) = R ∧ Below w.heap.size w wr) (fun v0 _ _ => lenS v0)
  case atStart => exact ⟨xs, [], HV.out, HBX.out, by simpa using hxn, OwnRows.nil_ _ _, HR0.out, Below.refl _ _⟩
  case round =>
    obtain ⟨rest, items, hbs, hby, hrl, ho, hT, hbel⟩ := hrel
    have HBS := hide hbs
    have HBY := hide hby
    have HO := hide ho
    have HTT := hide hT
    have HB := hide hbel
    have hwz := hbel.size
    obtain ⟨Ar, cr, rfl, g1, g2, g3⟩ := hbs.open_
    unfold maxLen at g2
    clear hbs hby ho hT hbel g3
    by_cases hit : 0 < rest.length
    · have i1 : (0 : Int) < (rest.length : Int) := by omega
      have HCALL := hide (TakeNet_ref _ rest wr w.heap.size hwz HBS.out HBY.out (by omega))
      go_wp2_with fail
      refine HCALL.out.mono ?_
      rintro e w1 (⟨v1, v2, x, r, ht, rfl, ho1, ho2, hb1⟩ | ⟨ht, rfl, hb1⟩)
      · have HO1 := hide ho1
        have HO2 := hide ho2
        have hz1 := hb1.size
        have HB1 := hide (HB.out.trans (hb1.mono hwz))
        have HOW := hide (HO.out.keptB hb1 hwz)
        have hll := take_lt ht
        have HTN := hide (show (Msg.rowsF r).map ((items ++ [x]) ++ ·) = R by
          have h := HTT.out
          rw [Msg.rowsF_take ht, Option.map_map] at h
          rw [← h]
          simp only [Function.comp_def, List.append_assoc, List.singleton_append])
        have HBR := hide (show Bytes r from fun z hz => HBY.out z (by rw [(take_sound rest x r ht).1]; exact List.mem_append_right _ hz))
        obtain ⟨A1, c1, rfl, _, _, _⟩ := ho1.open_
        obtain ⟨A2, c2, rfl, _, _, _⟩ := ho2.open_
        clear ho1 ho2 hb1 ht HCALL HO HB HTT HBS HBY
        go_wp2_with (at_builtin; go_must (refine wpList_append_row rfl _ _ rfl w.heap.size _ items rfl HOW.out (by omega) _ x (.inl HO1.out) rfl (by omega) ?_); intro v25 w2 ho25 hb25 hk25; have HO25 := hide ho25; have HB25 := hide (HB1.out.trans hb25); have HOR := hide (HO2.out.below hb25 (Nat.le_refl _)); clear ho25 hb25 hk25)
        go_roundw
        case measure => simp [lenS]; omega
        case rel => exact ⟨r, items ++ [x], HOR.out, HBR.out, by rw [List.length_append, List.length_singleton]; omega, HO25.out, HTN.out, HB25.out⟩
      · have HNO := hide (show R = none by
          rw [← HTT.out, Msg.rowsF_none ht hit]; rfl)
        go_wp2_with fail
        go_ret2
        exact .inr ⟨HNO.out, rfl, HB.out.trans (hb1.mono hwz)⟩
    · have e : rest = [] := List.eq_nil_of_length_eq_zero (by omega)
      have HYES := hide (show R = some items by rw [← HTT.out, e]; simp [Msg.rowsF, Msg.rowsN])
      subst e
      go_wp2_with fail
      go_ret2
      exact .inl ⟨_, items, HYES.out, rfl, HO.out.reads hwz, HB.out⟩
end Go.Proofs.YtfinfkodjkfibaaDoor

namespace Go.Proofs.YtfinfkodjkfibaaDoor
open Go Go.RowKit
set_option linter.unusedVariables false
set_option linter.unusedSimpArgs false
set_option maxRecDepth 100000
/-- What takeBlobs answers. -/
def TakeBRes (w w' : World) (e : Ending) (r : Option (List Msg.Blb)) : Prop :=
  (∃ v l, r = some l ∧ e = .returned (.tuple #[v, .bool true]) ∧ OwnBlbs w' w.heap.size v l ∧ Below w.heap.size w w') ∨
  (r = none ∧ e = .returned (.tuple #[.slice none 0 0, .bool false]) ∧ Below w.heap.size w w')
theorem Msg.takeB_len {c : List Int} {rest : List (List Int)} (h : ¬ c.length = 1) : Msg.takeB (c :: rest) = none := by rw [Msg.takeB, if_neg (fun hh => h hh.1)]
theorem Msg.takeB_big {c : List Int} {rest : List (List Int)} (h : 32 < c.getD 0 0) : Msg.takeB (c :: rest) = none := by rw [Msg.takeB, if_neg (fun hh => by omega)]
theorem Msg.takeB_cnt {c : List Int} {rest : List (List Int)} (h : ¬ (rest.length : Int) = 2 * c.getD 0 0) : Msg.takeB (c :: rest) = none := by rw [Msg.takeB, if_neg (fun hh => h hh.2.2)]
theorem Msg.takeB_go {c : List Int} {rest : List (List Int)} (h1 : c.length = 1) (h2 : c.getD 0 0 ≤ 32) (h3 : (rest.length : Int) = 2 * c.getD 0 0) : Msg.takeB (c :: rest) = Msg.pairsB rest := by rw [Msg.takeB, if_pos ⟨h1, h2, h3⟩]
theorem drop2 (rest : List (List Int)) (i : Nat) (h : i + 1 < rest.length) : rest.drop i = rest[i] :: rest[i + 1] :: rest.drop (i + 2) := by
  rw [List.drop_eq_getElem_cons (by omega), List.drop_eq_getElem_cons (by omega)]
theorem bs_one {w : World} {B : Nat} {A : Option Addr} {n c : Nat} {x : List Int} (h : Bs w B (.slice A n c) x) (hx : x.length = 1) (hb : Bytes x) : ∃ b o, A = some ⟨b, o, none⟩ ∧ b < B ∧ n = 1 ∧ w.cell? ⟨b, o, none⟩ = some (.int .u8 (x.getD 0 0)) ∧ 0 ≤ x.getD 0 0 ∧ x.getD 0 0 < 256 := by
  match x, hx, hb with
  | [a], _, hb =>
    obtain ⟨A', c', e, _, _, _, h4⟩ := h
    injection e with e1 e2 e3
    subst e1 e2 e3
    obtain ⟨b, o, rfl, hbB, hc⟩ := h4 (by simp)
    have := hb a List.mem_cons_self
    exact ⟨b, o, rfl, hbB, rfl, hc 0 _ rfl, this.1, this.2⟩
set_option maxHeartbeats 4000000
theorem takeBlobs_ref (v : Value) (rows : List (List Int)) (w : World) (hv : RowsB w w.heap.size v rows) (hb : ∀ x ∈ rows, Bytes x ∧ x.length ≤ 16384) (hn : rows.length ≤ 1000000) :
    Calls Tryd.prog 38 #[v] w fun e w' => TakeBRes w w' e (Msg.takeB rows) := by
  obtain ⟨A, c, rfl, h1, h2, h3⟩ := hv.open_
  unfold maxLen at h2
  have HBe := hide (Below.refl w.heap.size w)
  have HB := HBe
  obtain ⟨base, HBS⟩ : ∃ b, Hid (w.heap.size = b) := ⟨_, hide rfl⟩
  rcases rows with _ | ⟨x0, rest⟩
  · have HNO := hide (show Msg.takeB [] = none from rfl)
    clear h3 hv hb
    go_enter Tryd.func38, Tryd.ntmps38
    go_wp2_with go_skip
    go_ret2
    exact .inr ⟨HNO.out, rfl, HB.out⟩
  obtain ⟨bb, oo, rfl, hbb, hcc⟩ := h3 (by simp)
  obtain ⟨u0, hc0, hu0⟩ := hcc 0 (by simp)
  have HB0 := hide (hb x0 List.mem_cons_self)
  obtain ⟨L, HL⟩ : ∃ L, Hid ((x0 :: rest).length = L) := ⟨_, hide rfl⟩
  have hLr : rest.length + 1 ≤ L ∧ L ≤ rest.length + 1 := by have := HL.out; rw [List.length_cons] at this; omega
  obtain ⟨Au, cu, rfl, g1, g2, _⟩ := hu0.open_
  unfold maxLen at g2
  simp only [List.getElem_cons_zero] at hc0 hu0 g1
  rw [Nat.add_zero] at hc0
  rw [HL.out] at h1 hn ⊢
  have HCC := hide hcc
  have HBY := hide hb
  have hpos : (0 : Int) < (L : Int) := by omega
  have hpos1 : ¬ (L : Int) < 1 := by omega
  obtain ⟨n0, HN0⟩ : ∃ n, Hid (x0.length = n) := ⟨_, hide rfl⟩
  rw [HN0.out] at hc0 g1 hu0
  clear h3 hcc hv hb
  by_cases hx1 : x0.length = 1
  case neg =>
    have HNO := hide (show Msg.takeB (x0 :: rest) = none from Msg.takeB_len hx1)
    have hn1 : ((n0 : Int) != 1) = true := by have := HN0.out; simp; omega
    clear hx1
    go_enter Tryd.func38, Tryd.ntmps38
    go_wp2_with go_skip
    go_ret2
    exact .inr ⟨HNO.out, rfl, HB.out⟩
  obtain ⟨b0, o0, rfl, hb0, hn01, hcx, hX0, hX1⟩ := bs_one (x := x0) hu0 hx1 HB0.out.1
  obtain ⟨M, HM⟩ : ∃ M, Hid (x0.getD 0 0 = M) := ⟨_, hide rfl⟩
  rw [HM.out] at hcx hX0 hX1
  have HX1 := hide hx1
  subst hn01
  clear hx1
  by_cases h32 : 32 < M
  · have HNO := hide (show Msg.takeB (x0 :: rest) = none from Msg.takeB_big (by rw [HM.out]; exact h32))
    go_enter Tryd.func38, Tryd.ntmps38
    go_wp2_with go_skip
    go_ret2
    exact .inr ⟨HNO.out, rfl, HB.out⟩
  have h32' : ¬ 32 < M := h32
  obtain ⟨m, rfl⟩ := Int.eq_ofNat_of_zero_le hX0
  by_cases hcnt : (rest.length : Int) = 2 * (m : Int)
  case neg =>
    have HNO := hide (show Msg.takeB (x0 :: rest) = none from Msg.takeB_cnt (by rw [HM.out]; exact hcnt))
    have hcn : ((L : Int) != 1 + 2 * (m : Int)) = true := by simp; omega
    clear hcnt
    go_enter Tryd.func38, Tryd.ntmps38
    go_wp2_with go_skip
    go_ret2
    exact .inr ⟨HNO.out, rfl, HB.out⟩
  have hcn : ((L : Int) != 1 + 2 * (m : Int)) = false := by simp; omega
  obtain ⟨R, HR⟩ : ∃ r, Hid (Msg.takeB (x0 :: rest) = r) := ⟨_, hide rfl⟩
  have HR0 := hide (show (Msg.pairsB (rest.drop 0)).map ([] ++ ·) = R by
    rw [← HR.out, Msg.takeB_go HX1.out (by rw [HM.out]; omega) (by rw [HM.out]; exact hcnt), List.drop_zero]
    cases Msg.pairsB rest <;> rfl)
  have hr2 : rest.length ≤ 2 * m ∧ 2 * m ≤ rest.length := by omega
  rw [HR.out]
  clear hcnt
  go_enter Tryd.func38, Tryd.ntmps38
  go_wp2_with go_skip
  go_loopw [4, 5] (fun v4 v5 wr => ∃ (j k : Nat) (items : List Msg.Blb), v5 = .int .i64 (j : Int) ∧ (j = 2 * k + 1 ∧ k ≤ m) ∧ items.length ≤ k ∧ OwnBlbs wr w.heap.size v4 items ∧ (Msg.pairsB (rest.drop (2 * k))).map (items ++ ·) = R ∧ Below w.heap.size w wr) (fun _ v5 _ => 2 * m + 1 - (intOf v5).toNat)
  case atStart => exact ⟨1, 0, [], by go_num, by omega, by simp, OwnBlbs.nil_ _ _, HR0.out, HBe.out⟩
  case round =>
    obtain ⟨j, k, items, rfl, hjk, hil, ho, hT, hbel⟩ := hrel
    clear HB
    have HJ := hide hjk
    have hj1 : 2 * k + 1 ≤ j ∧ j ≤ 2 * k + 1 ∧ k ≤ m := by omega
    have HO := hide ho
    have HTT := hide hT
    have HB := hide hbel
    have hwz := hbel.size
    clear hjk ho hT hbel
    by_cases hit : j < L
    · have i1 : (j : Int) < (L : Int) := by omega
      have i2 : (0 : Int) ≤ (j : Int) := by omega
      obtain ⟨u1, hc1, hu1⟩ := HCC.out j (by rw [HL.out]; exact hit)
      obtain ⟨u2, hc2, hu2⟩ := HCC.out (j + 1) (by rw [HL.out]; omega)
      have HBX := hide (HBY.out _ (List.getElem_mem (show j < (x0 :: rest).length by rw [HL.out]; exact hit)))
      have HBZ := hide (HBY.out _ (List.getElem_mem (show j + 1 < (x0 :: rest).length by rw [HL.out]; omega)))
      have HD := hide (show rest.drop (2 * k) = (x0 :: rest)[j]'(by rw [HL.out]; exact hit) :: (x0 :: rest)[j + 1]'(by rw [HL.out]; omega) :: rest.drop (2 * k + 2) by
        have h := HJ.out.1
        subst h
        simp only [List.getElem_cons_succ]
        exact drop2 rest (2 * k) (by omega))
      obtain ⟨x1, HXE⟩ : ∃ x, Hid ((x0 :: rest)[j]'(by rw [HL.out]; exact hit) = x) := ⟨_, hide rfl⟩
      obtain ⟨x2, HXF⟩ : ∃ x, Hid ((x0 :: rest)[j + 1]'(by rw [HL.out]; omega) = x) := ⟨_, hide rfl⟩
      rw [HXE.out] at hu1 HBX HD
      rw [HXF.out] at hu2 HBZ HD
      rw [HD.out, Msg.pairsB] at HTT
      obtain ⟨A1, c1, rfl, _, _, _⟩ := hu1.open_
      obtain ⟨A2, c2, rfl, _, _, _⟩ := hu2.open_
      have HC1 := hide hc1
      have HC2 := hide hc2
      have HXB := hide HBZ.out.1
      have HXL := hide HBZ.out.2
      have HU := hide hu2
      have hd1 : wr.cell? ⟨bb, oo + j, none⟩ = some (.slice A1 x1.length c1) := (HB.out.cell (p := ⟨bb, oo + j, none⟩) hbb).trans hc1
      obtain ⟨n1, HN1⟩ : ∃ n, Hid (x1.length = n) := ⟨_, hide rfl⟩
      rw [HN1.out] at hd1 HC1 hu1
      clear hc1 hc2 hu2 HXE HXF HD
      by_cases hx1 : x1.length = 1
      case neg =>
        have HNO := hide (show R = none by rw [← HTT.out, if_neg (fun h => hx1 h.1)]; rfl)
        have hn1 : ((n1 : Int) != 1) = true := by have := HN1.out; simp; omega
        clear hx1
        go_wp2_with go_skip
        go_ret2
        exact .inr ⟨HNO.out, rfl, HB.out⟩
      obtain ⟨b1, o1, rfl, hb1, hn11, hcy, hY0, hY1⟩ := bs_one (x := x1) hu1 hx1 HBX.out.1
      obtain ⟨X, HXX⟩ : ∃ M, Hid (x1.getD 0 0 = M) := ⟨_, hide rfl⟩
      rw [HXX.out] at hcy hY0 hY1
      have hd3 : wr.cell? ⟨b1, o1, none⟩ = some (.int .u8 X) := (HB.out.cell (p := ⟨b1, o1, none⟩) hb1).trans hcy
      have HX1' := hide hx1
      have HC3 := hide hcy
      subst hn11
      clear hx1 hcy
      by_cases h16 : 16 ≤ X
      · have HNO := hide (show R = none by rw [← HTT.out, if_neg (fun h => by have h2 := h.2; rw [HXX.out] at h2; omega)]; rfl)
        go_wp2_with go_skip
        go_ret2
        exact .inr ⟨HNO.out, rfl, HB.out⟩
      have h16' : ¬ 16 ≤ X := h16
      have HTN := hide (show (Msg.pairsB (rest.drop (2 * (k + 1)))).map ((items ++ [(X, x2)]) ++ ·) = R by
        have h := HTT.out
        rw [if_pos ⟨HX1'.out, by rw [HXX.out]; omega⟩, HXX.out, Option.map_map] at h
        rw [← h]
        simp only [Function.comp_def, List.append_assoc, List.singleton_append]
        rfl)
      go_upto_region 9 with go_skip
      generalize HVV : u4 = V at HO ⊢
      have hbs0 : w.heap.size ≤ w.heap.size := Nat.le_refl _
      clear hd1 hd3 HVV
      refine wp_region_held_drew (S := fun w' => Below w.heap.size w w') (by kernel_rfl) HB.out.drew (fun hHeld => ?_)
      replace HO := hide (HO.out.keptB (Below.refl _ _).drew (by have := HB.out.size; omega))
      refine take_d 59 (i := 0) (v := V) rfl (by kernel_rfl) (by kernel_rfl) (by kernel_rfl) (by kernel_rfl) (fun _ _ _ h => h) (Or.inl ⟨by kernel_rfl, fun w' hS => exec_move _ rfl _ rfl⟩) hHeld ?_
      try simp only [Act.put, List.setIfInBounds_toArray, List.set_cons_zero, List.set_cons_succ]
      refine take_d 60 (i := 1) (v := .slice (some ⟨bb, oo, none⟩) L c) rfl (by kernel_rfl) (by kernel_rfl) (by kernel_rfl) (by kernel_rfl) (fun _ _ _ h => h) (Or.inl ⟨by kernel_rfl, fun w' hS => exec_move _ rfl _ rfl⟩) hHeld ?_
      try simp only [Act.put, List.setIfInBounds_toArray, List.set_cons_zero, List.set_cons_succ]
      refine take_d 61 (i := 2) (v := .int .i64 ((j : Int))) rfl (by kernel_rfl) (by kernel_rfl) (by kernel_rfl) (by kernel_rfl) (fun _ _ _ h => h) (Or.inl ⟨by kernel_rfl, fun w' hS => exec_move _ rfl _ rfl⟩) hHeld ?_
      try simp only [Act.put, List.setIfInBounds_toArray, List.set_cons_zero, List.set_cons_succ]
      refine take_d 62 (i := 3) (v := .pointer (some ⟨bb, oo + j, none⟩)) rfl (by kernel_rfl) (by kernel_rfl) (by kernel_rfl) (by kernel_rfl) (fun _ _ _ h => h) (Or.inl ⟨by kernel_rfl, fun w' hS => exec_indexG _ _ _ rfl _ L c bb oo 1 j rfl rfl rfl (by omega) (by kernel_rfl) _ (by omega)⟩) hHeld ?_
      try simp only [Act.put, List.setIfInBounds_toArray, List.set_cons_zero, List.set_cons_succ]
      refine take_d 63 (i := 4) (v := .slice (some ⟨b1, o1, none⟩) 1 c1) rfl (by kernel_rfl) (by kernel_rfl) (by kernel_rfl) (by kernel_rfl) (fun _ _ _ h => h) (Or.inl ⟨by kernel_rfl, fun w' hS => exec_load_one _ _ rfl bb (oo + j) rfl _ Tryd.underlying26 rfl _ ((hS.cell (p := ⟨bb, oo + j, none⟩) hbb).trans HC1.out)⟩) hHeld ?_
      try simp only [Act.put, List.setIfInBounds_toArray, List.set_cons_zero, List.set_cons_succ]
      refine take_d 64 (i := 5) (v := .pointer (some ⟨b1, o1, none⟩)) rfl (by kernel_rfl) (by kernel_rfl) (by kernel_rfl) (by kernel_rfl) (fun _ _ _ h => h) (Or.inl ⟨by kernel_rfl, fun w' hS => exec_indexG _ _ _ rfl _ 1 c1 b1 o1 1 0 rfl rfl rfl (by omega) (by kernel_rfl) _ (by omega)⟩) hHeld ?_
      try simp only [Act.put, List.setIfInBounds_toArray, List.set_cons_zero, List.set_cons_succ]
      refine take_d 65 (i := 6) (v := .int .u8 (X)) rfl (by kernel_rfl) (by kernel_rfl) (by kernel_rfl) (by kernel_rfl) (fun _ _ _ h => h) (Or.inl ⟨by kernel_rfl, fun w' hS => exec_load_one _ _ rfl b1 o1 rfl _ Tryd.underlying5 rfl _ ((hS.cell (p := ⟨b1, o1, none⟩) hb1).trans HC3.out)⟩) hHeld ?_
      try simp only [Act.put, List.setIfInBounds_toArray, List.set_cons_zero, List.set_cons_succ]
      refine take_d 66 (i := 7) (v := .int .i64 X) rfl (by kernel_rfl) (by kernel_rfl) (by kernel_rfl) (by kernel_rfl) (fun _ _ _ h => h) (Or.inl ⟨by kernel_rfl, fun w' hS => exec_u8_int _ _ rfl rfl (by omega) (by omega)⟩) hHeld ?_
      try simp only [Act.put, List.setIfInBounds_toArray, List.set_cons_zero, List.set_cons_succ]
      refine take_d 67 (i := 8) (v := .slice (some ⟨bb, oo, none⟩) L c) rfl (by kernel_rfl) (by kernel_rfl) (by kernel_rfl) (by kernel_rfl) (fun _ _ _ h => h) (Or.inl ⟨by kernel_rfl, fun w' hS => exec_move _ rfl _ rfl⟩) hHeld ?_
      try simp only [Act.put, List.setIfInBounds_toArray, List.set_cons_zero, List.set_cons_succ]
      refine take_d 68 (i := 9) (v := .int .i64 ((j : Int))) rfl (by kernel_rfl) (by kernel_rfl) (by kernel_rfl) (by kernel_rfl) (fun _ _ _ h => h) (Or.inl ⟨by kernel_rfl, fun w' hS => exec_move _ rfl _ rfl⟩) hHeld ?_
      try simp only [Act.put, List.setIfInBounds_toArray, List.set_cons_zero, List.set_cons_succ]
      refine take_d 69 (i := 10) (v := .int .i64 (((j + 1 : Nat) : Int))) rfl (by kernel_rfl) (by kernel_rfl) (by kernel_rfl) (by kernel_rfl) (fun _ _ _ h => h) (Or.inl ⟨by kernel_rfl, fun w' hS => exec_addG _ _ _ rfl _ _ _ rfl rfl (by omega) (by omega)⟩) hHeld ?_
      try simp only [Act.put, List.setIfInBounds_toArray, List.set_cons_zero, List.set_cons_succ]
      refine take_d 70 (i := 11) (v := .pointer (some ⟨bb, oo + (j + 1), none⟩)) rfl (by kernel_rfl) (by kernel_rfl) (by kernel_rfl) (by kernel_rfl) (fun _ _ _ h => h) (Or.inl ⟨by kernel_rfl, fun w' hS => exec_indexG _ _ _ rfl _ L c bb oo 1 (j + 1) rfl rfl rfl (by omega) (by kernel_rfl) _ (by omega)⟩) hHeld ?_
      try simp only [Act.put, List.setIfInBounds_toArray, List.set_cons_zero, List.set_cons_succ]
      refine take_d 71 (i := 12) (v := .slice A2 x2.length c2) rfl (by kernel_rfl) (by kernel_rfl) (by kernel_rfl) (by kernel_rfl) (fun _ _ _ h => h) (Or.inl ⟨by kernel_rfl, fun w' hS => exec_load_one _ _ rfl bb (oo + (j + 1)) rfl _ Tryd.underlying26 rfl _ ((hS.cell (p := ⟨bb, oo + (j + 1), none⟩) hbb).trans HC2.out)⟩) hHeld ?_
      try simp only [Act.put, List.setIfInBounds_toArray, List.set_cons_zero, List.set_cons_succ]
      refine wpAnyH_ready (rs := [13]) (by kernel_rfl) (by simp) (AllReadyH.cons rfl (fun K hK => ?_) AllReadyH.nil)
      rw [if_pos (by kernel_rfl)]
      refine wp_append_BD 72 rfl _ _ rfl w.heap.size (.slice none 0 0) [] rfl (RowB.nil_ _ _) w.heap.size _ x2 rfl (HU.out.below hHeld (Nat.le_refl _)) HXB.out (by have := HXL.out; simp; omega) (Nat.le_trans hbs0 hHeld.size) ?_
      intro v72 w72 ho72 hg72
      rw [List.nil_append] at ho72
      have hb72 := (Below.refl _ _).grown hg72 (Nat.le_refl _) (by intro k hk; cases hk)
      replace HO := hide (HO.out.keptB hb72 (Nat.le_trans hbs0 hHeld.size))
      have HX := hide (show Below w.heap.size w _ from hHeld.trans (hb72.mono (Nat.le_trans hbs0 hHeld.size)))
      have HN := hide ho72
      obtain ⟨A72, c72, rfl⟩ := ho72.shape
      clear ho72 hg72 hb72
      refine hK.out _ _ HX.out (fun hHeld => ?_)
      clear HX hK K
      try simp only [Act.put, List.setIfInBounds_toArray, List.set_cons_zero, List.set_cons_succ]
      refine take_d 73 (i := 14) (v := .agg [Value.int .i64 X, .slice A72 x2.length c72].toArray) rfl (by kernel_rfl) (by kernel_rfl) (by kernel_rfl) (by kernel_rfl) (fun _ _ _ h => h) (Or.inl ⟨by kernel_rfl, fun w' hS => exec_build2 _ _ _ _ _ rfl _ _ rfl rfl [Value.int .i64 X, .slice A72 x2.length c72] (built_blob X A72 x2.length c72)⟩) hHeld ?_
      try simp only [Act.put, List.setIfInBounds_toArray, List.set_cons_zero, List.set_cons_succ]
      refine wpAnyH_ready (rs := [15]) (by kernel_rfl) (by simp) (AllReadyH.cons rfl (fun K hK => ?_) AllReadyH.nil)
      rw [if_pos (by kernel_rfl)]
      refine wp_blob1D 74 rfl _ rfl X (.slice A72 x2.length c72) rfl ?_
      intro g74 w74 hg74 hk74 hb74
      replace HO := hide (HO.out.keptB hb74 (Nat.le_trans hbs0 hHeld.size))
      have HX := hide (show Below w.heap.size w _ from hHeld.trans (hb74.mono (Nat.le_trans hbs0 hHeld.size)))
      replace HN := hide (HN.out.keptB hb74)
      have HK := hide hk74
      clear hk74 hb74 hg74
      refine hK.out _ _ HX.out (fun hHeld => ?_)
      clear HX hK K
      try simp only [Act.put, List.setIfInBounds_toArray, List.set_cons_zero, List.set_cons_succ]
      refine wpAnyH_ready (rs := [16]) (by kernel_rfl) (by simp) (AllReadyH.cons rfl (fun K hK => ?_) AllReadyH.nil)
      rw [if_pos (by kernel_rfl)]
      refine wp_append_blobD 75 rfl _ _ rfl w.heap.size V items rfl HO.out (Nat.le_trans hbs0 hHeld.size) (by omega) g74 X _ x2 rfl HK.out (.inr HN.out) ?_
      intro v75 w75 ho75 hg75 hbz
      have HX := hide (show Below w.heap.size w w75 from hHeld.grown hg75 (Nat.le_trans hbs0 hHeld.size) hbz)
      have HO2 := hide ho75
      clear ho75 hg75 hbz
      refine hK.out _ _ HX.out (fun hHeld => ?_)
      clear HX hK K
      try simp only [Act.put, List.setIfInBounds_toArray, List.set_cons_zero, List.set_cons_succ]
      refine take_d 4 (i := 17) (v := v75) rfl (by kernel_rfl) (by kernel_rfl) (by kernel_rfl) (by kernel_rfl) (fun _ _ _ h => h) (Or.inl ⟨by kernel_rfl, fun w' hS => exec_assign _ rfl _ rfl⟩) hHeld ?_
      try simp only [Act.put, List.setIfInBounds_toArray, List.set_cons_zero, List.set_cons_succ]
      refine wpAnyH_done (by kernel_rfl) ?_ _
      go_wp2_with fail
      go_roundw
      case measure => simp [intOf]; omega
      case rel => exact ⟨j + 2, k + 1, items ++ [(X, x2)], by go_num, by omega, by rw [List.length_append, List.length_singleton]; omega, HO2.out, HTN.out, hHeld⟩
    · have i1 : ¬ (j : Int) < (L : Int) := by omega
      have e8 : k = m := by omega
      have HYES := hide (show R = some items by
        rw [← HTT.out, e8, List.drop_of_length_le (by omega)]
        simp [Msg.pairsB])
      clear e8
      obtain ⟨A3, c3, rfl⟩ := HO.out.shape
      go_wp2_with fail
      go_ret2
      exact .inl ⟨_, items, HYES.out, rfl, HO.out, HB.out⟩
end Go.Proofs.YtfinfkodjkfibaaDoor

namespace Go.Proofs.YtfinfkodjkfibaaDoor
open Go Go.RowKit
set_option linter.unusedVariables false
set_option linter.unusedSimpArgs false
set_option maxRecDepth 100000
/-- What takeBlobs answers. -/
def TakeBResR (w w' : World) (e : Ending) (r : Option (List Msg.Blb)) : Prop :=
  (∃ v l, r = some l ∧ e = .returned (.tuple #[v, .bool true]) ∧ OwnBlbsR w' w.heap.size v l ∧ Below w.heap.size w w') ∨
  (r = none ∧ e = .returned (.tuple #[.slice none 0 0, .bool false]) ∧ Below w.heap.size w w')
theorem OwnBlbsR.keptB' {w w' : World} {base : Nat} {v : Value} {l : List Msg.Blb} (h : OwnBlbsR w base v l) (hb : Below w.heap.size w w') (_ : base ≤ w.heap.size) : OwnBlbsR w' base v l := h.keptB hb
section
variable {o : Oper} {a : Act} {w : World} {K : Act → World → Prop} {Q : Exit → Act → World → Prop}
theorem wp_append_blobDR (d : Nat) (hd : o.dst = some d) (s x : Operand) (ho : o.op = .call { callee := .builtin .append, args := #[s, x], argTypes := #[23, 23] })
    (base : Nat) (v : Value) (l : List Msg.Blb) (hs : a.eval s = v) (hown : OwnBlbsR w base v l) (hB : base ≤ w.heap.size) (hl : l.length ≤ 1000000) (g : Nat) (X : Int) (u : Value) (r : List Int) (hx : a.eval x = .slice (some ⟨g, 0, none⟩) 1 1)
    (hg : Blk w g 44 [.int .i64 X, u]) (hu : RowB w base u r)
    (h : ∀ v' w', OwnBlbsR w' base v' (l ++ [(X, r)]) → w.grownBy w' v.ownBlock → (∀ k, v.ownBlock = some k → base ≤ k) → K (a.put (some d) v') w') : o.wp Tryd.prog a w K Q := by
  obtain ⟨us, hul, hrow, hel⟩ := hown
  have hrd := Rd.of_blk (B := w.heap.size) hg hg.lt 2 1 1 rfl (Nat.le_refl _) (by decide)
  have hone : ∀ z ∈ [Value.int .i64 X, u], z.oneCell' = true := fun z hz => by
    simp only [List.mem_cons, List.not_mem_nil, or_false] at hz
    rcases hz with rfl | rfl
    · rfl
    · exact ElB.one (.inr hu)
  refine wp_append_rdD w d hd s x _ ho base _ 2 32 el_blobs v l.length _ hs hrow w.heap.size _ 1 _ hx hrd hone (by omega) hB ?_
  intro v' w' h1 h2 _
  exact h v' w' (OwnBlbsR.push hul hrow hel hB hu h1 h2) h2 (own_base hrow)
end
set_option maxHeartbeats 4000000
theorem takeBlobs_refR (v : Value) (rows : List (List Int)) (w : World) (hv : RowsB w w.heap.size v rows) (hb : ∀ x ∈ rows, Bytes x ∧ x.length ≤ 16384) (hn : rows.length ≤ 1000000) :
    Calls Tryd.prog 38 #[v] w fun e w' => TakeBResR w w' e (Msg.takeB rows) := by
  obtain ⟨A, c, rfl, h1, h2, h3⟩ := hv.open_
  unfold maxLen at h2
  have HBe := hide (Below.refl w.heap.size w)
  have HB := HBe
  obtain ⟨base, HBS⟩ : ∃ b, Hid (w.heap.size = b) := ⟨_, hide rfl⟩
  rcases rows with _ | ⟨x0, rest⟩
  · have HNO := hide (show Msg.takeB [] = none from rfl)
    clear h3 hv hb
    go_enter Tryd.func38, Tryd.ntmps38
    go_wp2_with go_skip
    go_ret2
    exact .inr ⟨HNO.out, rfl, HB.out⟩
  obtain ⟨bb, oo, rfl, hbb, hcc⟩ := h3 (by simp)
  obtain ⟨u0, hc0, hu0⟩ := hcc 0 (by simp)
  have HB0 := hide (hb x0 List.mem_cons_self)
  obtain ⟨L, HL⟩ : ∃ L, Hid ((x0 :: rest).length = L) := ⟨_, hide rfl⟩
  have hLr : rest.length + 1 ≤ L ∧ L ≤ rest.length + 1 := by have := HL.out; rw [List.length_cons] at this; omega
  obtain ⟨Au, cu, rfl, g1, g2, _⟩ := hu0.open_
  unfold maxLen at g2
  simp only [List.getElem_cons_zero] at hc0 hu0 g1
  rw [Nat.add_zero] at hc0
  rw [HL.out] at h1 hn ⊢
  have HCC := hide hcc
  have HBY := hide hb
  have hpos : (0 : Int) < (L : Int) := by omega
  have hpos1 : ¬ (L : Int) < 1 := by omega
  obtain ⟨n0, HN0⟩ : ∃ n, Hid (x0.length = n) := ⟨_, hide rfl⟩
  rw [HN0.out] at hc0 g1 hu0
  clear h3 hcc hv hb
  by_cases hx1 : x0.length = 1
  case neg =>
    have HNO := hide (show Msg.takeB (x0 :: rest) = none from Msg.takeB_len hx1)
    have hn1 : ((n0 : Int) != 1) = true := by have := HN0.out; simp; omega
    clear hx1
    go_enter Tryd.func38, Tryd.ntmps38
    go_wp2_with go_skip
    go_ret2
    exact .inr ⟨HNO.out, rfl, HB.out⟩
  obtain ⟨b0, o0, rfl, hb0, hn01, hcx, hX0, hX1⟩ := bs_one (x := x0) hu0 hx1 HB0.out.1
  obtain ⟨M, HM⟩ : ∃ M, Hid (x0.getD 0 0 = M) := ⟨_, hide rfl⟩
  rw [HM.out] at hcx hX0 hX1
  have HX1 := hide hx1
  subst hn01
  clear hx1
  by_cases h32 : 32 < M
  · have HNO := hide (show Msg.takeB (x0 :: rest) = none from Msg.takeB_big (by rw [HM.out]; exact h32))
    go_enter Tryd.func38, Tryd.ntmps38
    go_wp2_with go_skip
    go_ret2
    exact .inr ⟨HNO.out, rfl, HB.out⟩
  have h32' : ¬ 32 < M := h32
  obtain ⟨m, rfl⟩ := Int.eq_ofNat_of_zero_le hX0
  by_cases hcnt : (rest.length : Int) = 2 * (m : Int)
  case neg =>
    have HNO := hide (show Msg.takeB (x0 :: rest) = none from Msg.takeB_cnt (by rw [HM.out]; exact hcnt))
    have hcn : ((L : Int) != 1 + 2 * (m : Int)) = true := by simp; omega
    clear hcnt
    go_enter Tryd.func38, Tryd.ntmps38
    go_wp2_with go_skip
    go_ret2
    exact .inr ⟨HNO.out, rfl, HB.out⟩
  have hcn : ((L : Int) != 1 + 2 * (m : Int)) = false := by simp; omega
  obtain ⟨R, HR⟩ : ∃ r, Hid (Msg.takeB (x0 :: rest) = r) := ⟨_, hide rfl⟩
  have HR0 := hide (show (Msg.pairsB (rest.drop 0)).map ([] ++ ·) = R by
    rw [← HR.out, Msg.takeB_go HX1.out (by rw [HM.out]; omega) (by rw [HM.out]; exact hcnt), List.drop_zero]
    cases Msg.pairsB rest <;> rfl)
  have hr2 : rest.length ≤ 2 * m ∧ 2 * m ≤ rest.length := by omega
  rw [HR.out]
  clear hcnt
  go_enter Tryd.func38, Tryd.ntmps38
  go_wp2_with go_skip
  go_loopw [4, 5] (fun v4 v5 wr => ∃ (j k : Nat) (items : List Msg.Blb), v5 = .int .i64 (j : Int) ∧ (j = 2 * k + 1 ∧ k ≤ m) ∧ items.length ≤ k ∧ OwnBlbsR wr w.heap.size v4 items ∧ (Msg.pairsB (rest.drop (2 * k))).map (items ++ ·) = R ∧ Below w.heap.size w wr) (fun _ v5 _ => 2 * m + 1 - (intOf v5).toNat)
  case atStart => exact ⟨1, 0, [], by go_num, by omega, by simp, OwnBlbsR.nil_ _ _, HR0.out, HBe.out⟩
  case round =>
    obtain ⟨j, k, items, rfl, hjk, hil, ho, hT, hbel⟩ := hrel
    clear HB
    have HJ := hide hjk
    have hj1 : 2 * k + 1 ≤ j ∧ j ≤ 2 * k + 1 ∧ k ≤ m := by omega
    have HO := hide ho
    have HTT := hide hT
    have HB := hide hbel
    have hwz := hbel.size
    clear hjk ho hT hbel
    by_cases hit : j < L
    · have i1 : (j : Int) < (L : Int) := by omega
      have i2 : (0 : Int) ≤ (j : Int) := by omega
      obtain ⟨u1, hc1, hu1⟩ := HCC.out j (by rw [HL.out]; exact hit)
      obtain ⟨u2, hc2, hu2⟩ := HCC.out (j + 1) (by rw [HL.out]; omega)
      have HBX := hide (HBY.out _ (List.getElem_mem (show j < (x0 :: rest).length by rw [HL.out]; exact hit)))
      have HBZ := hide (HBY.out _ (List.getElem_mem (show j + 1 < (x0 :: rest).length by rw [HL.out]; omega)))
      have HD := hide (show rest.drop (2 * k) = (x0 :: rest)[j]'(by rw [HL.out]; exact hit) :: (x0 :: rest)[j + 1]'(by rw [HL.out]; omega) :: rest.drop (2 * k + 2) by
        have h := HJ.out.1
        subst h
        simp only [List.getElem_cons_succ]
        exact drop2 rest (2 * k) (by omega))
      obtain ⟨x1, HXE⟩ : ∃ x, Hid ((x0 :: rest)[j]'(by rw [HL.out]; exact hit) = x) := ⟨_, hide rfl⟩
      obtain ⟨x2, HXF⟩ : ∃ x, Hid ((x0 :: rest)[j + 1]'(by rw [HL.out]; omega) = x) := ⟨_, hide rfl⟩
      rw [HXE.out] at hu1 HBX HD
      rw [HXF.out] at hu2 HBZ HD
      rw [HD.out, Msg.pairsB] at HTT
      obtain ⟨A1, c1, rfl, _, _, _⟩ := hu1.open_
      obtain ⟨A2, c2, rfl, _, _, _⟩ := hu2.open_
      have HC1 := hide hc1
      have HC2 := hide hc2
      have HXB := hide HBZ.out.1
      have HXL := hide HBZ.out.2
      have HU := hide hu2
      have hd1 : wr.cell? ⟨bb, oo + j, none⟩ = some (.slice A1 x1.length c1) := (HB.out.cell (p := ⟨bb, oo + j, none⟩) hbb).trans hc1
      obtain ⟨n1, HN1⟩ : ∃ n, Hid (x1.length = n) := ⟨_, hide rfl⟩
      rw [HN1.out] at hd1 HC1 hu1
      clear hc1 hc2 hu2 HXE HXF HD
      by_cases hx1 : x1.length = 1
      case neg =>
        have HNO := hide (show R = none by rw [← HTT.out, if_neg (fun h => hx1 h.1)]; rfl)
        have hn1 : ((n1 : Int) != 1) = true := by have := HN1.out; simp; omega
        clear hx1
        go_wp2_with go_skip
        go_ret2
        exact .inr ⟨HNO.out, rfl, HB.out⟩
      obtain ⟨b1, o1, rfl, hb1, hn11, hcy, hY0, hY1⟩ := bs_one (x := x1) hu1 hx1 HBX.out.1
      obtain ⟨X, HXX⟩ : ∃ M, Hid (x1.getD 0 0 = M) := ⟨_, hide rfl⟩
      rw [HXX.out] at hcy hY0 hY1
      have hd3 : wr.cell? ⟨b1, o1, none⟩ = some (.int .u8 X) := (HB.out.cell (p := ⟨b1, o1, none⟩) hb1).trans hcy
      have HX1' := hide hx1
      have HC3 := hide hcy
      subst hn11
      clear hx1 hcy
      by_cases h16 : 16 ≤ X
      · have HNO := hide (show R = none by rw [← HTT.out, if_neg (fun h => by have h2 := h.2; rw [HXX.out] at h2; omega)]; rfl)
        go_wp2_with go_skip
        go_ret2
        exact .inr ⟨HNO.out, rfl, HB.out⟩
      have h16' : ¬ 16 ≤ X := h16
      have HTN := hide (show (Msg.pairsB (rest.drop (2 * (k + 1)))).map ((items ++ [(X, x2)]) ++ ·) = R by
        have h := HTT.out
        rw [if_pos ⟨HX1'.out, by rw [HXX.out]; omega⟩, HXX.out, Option.map_map] at h
        rw [← h]
        simp only [Function.comp_def, List.append_assoc, List.singleton_append]
        rfl)
      go_upto_region 9 with go_skip
      generalize HVV : u4 = V at HO ⊢
      have hbs0 : w.heap.size ≤ w.heap.size := Nat.le_refl _
      clear hd1 hd3 HVV
      refine wp_region_held_drew (S := fun w' => Below w.heap.size w w') (by kernel_rfl) HB.out.drew (fun hHeld => ?_)
      replace HO := hide (HO.out.keptB' (Below.refl _ _).drew (by have := HB.out.size; omega))
      refine take_d 59 (i := 0) (v := V) rfl (by kernel_rfl) (by kernel_rfl) (by kernel_rfl) (by kernel_rfl) (fun _ _ _ h => h) (Or.inl ⟨by kernel_rfl, fun w' hS => exec_move _ rfl _ rfl⟩) hHeld ?_
      try simp only [Act.put, List.setIfInBounds_toArray, List.set_cons_zero, List.set_cons_succ]
      refine take_d 60 (i := 1) (v := .slice (some ⟨bb, oo, none⟩) L c) rfl (by kernel_rfl) (by kernel_rfl) (by kernel_rfl) (by kernel_rfl) (fun _ _ _ h => h) (Or.inl ⟨by kernel_rfl, fun w' hS => exec_move _ rfl _ rfl⟩) hHeld ?_
      try simp only [Act.put, List.setIfInBounds_toArray, List.set_cons_zero, List.set_cons_succ]
      refine take_d 61 (i := 2) (v := .int .i64 ((j : Int))) rfl (by kernel_rfl) (by kernel_rfl) (by kernel_rfl) (by kernel_rfl) (fun _ _ _ h => h) (Or.inl ⟨by kernel_rfl, fun w' hS => exec_move _ rfl _ rfl⟩) hHeld ?_
      try simp only [Act.put, List.setIfInBounds_toArray, List.set_cons_zero, List.set_cons_succ]
      refine take_d 62 (i := 3) (v := .pointer (some ⟨bb, oo + j, none⟩)) rfl (by kernel_rfl) (by kernel_rfl) (by kernel_rfl) (by kernel_rfl) (fun _ _ _ h => h) (Or.inl ⟨by kernel_rfl, fun w' hS => exec_indexG _ _ _ rfl _ L c bb oo 1 j rfl rfl rfl (by omega) (by kernel_rfl) _ (by omega)⟩) hHeld ?_
      try simp only [Act.put, List.setIfInBounds_toArray, List.set_cons_zero, List.set_cons_succ]
      refine take_d 63 (i := 4) (v := .slice (some ⟨b1, o1, none⟩) 1 c1) rfl (by kernel_rfl) (by kernel_rfl) (by kernel_rfl) (by kernel_rfl) (fun _ _ _ h => h) (Or.inl ⟨by kernel_rfl, fun w' hS => exec_load_one _ _ rfl bb (oo + j) rfl _ Tryd.underlying26 rfl _ ((hS.cell (p := ⟨bb, oo + j, none⟩) hbb).trans HC1.out)⟩) hHeld ?_
      try simp only [Act.put, List.setIfInBounds_toArray, List.set_cons_zero, List.set_cons_succ]
      refine take_d 64 (i := 5) (v := .pointer (some ⟨b1, o1, none⟩)) rfl (by kernel_rfl) (by kernel_rfl) (by kernel_rfl) (by kernel_rfl) (fun _ _ _ h => h) (Or.inl ⟨by kernel_rfl, fun w' hS => exec_indexG _ _ _ rfl _ 1 c1 b1 o1 1 0 rfl rfl rfl (by omega) (by kernel_rfl) _ (by omega)⟩) hHeld ?_
      try simp only [Act.put, List.setIfInBounds_toArray, List.set_cons_zero, List.set_cons_succ]
      refine take_d 65 (i := 6) (v := .int .u8 (X)) rfl (by kernel_rfl) (by kernel_rfl) (by kernel_rfl) (by kernel_rfl) (fun _ _ _ h => h) (Or.inl ⟨by kernel_rfl, fun w' hS => exec_load_one _ _ rfl b1 o1 rfl _ Tryd.underlying5 rfl _ ((hS.cell (p := ⟨b1, o1, none⟩) hb1).trans HC3.out)⟩) hHeld ?_
      try simp only [Act.put, List.setIfInBounds_toArray, List.set_cons_zero, List.set_cons_succ]
      refine take_d 66 (i := 7) (v := .int .i64 X) rfl (by kernel_rfl) (by kernel_rfl) (by kernel_rfl) (by kernel_rfl) (fun _ _ _ h => h) (Or.inl ⟨by kernel_rfl, fun w' hS => exec_u8_int _ _ rfl rfl (by omega) (by omega)⟩) hHeld ?_
      try simp only [Act.put, List.setIfInBounds_toArray, List.set_cons_zero, List.set_cons_succ]
      refine take_d 67 (i := 8) (v := .slice (some ⟨bb, oo, none⟩) L c) rfl (by kernel_rfl) (by kernel_rfl) (by kernel_rfl) (by kernel_rfl) (fun _ _ _ h => h) (Or.inl ⟨by kernel_rfl, fun w' hS => exec_move _ rfl _ rfl⟩) hHeld ?_
      try simp only [Act.put, List.setIfInBounds_toArray, List.set_cons_zero, List.set_cons_succ]
      refine take_d 68 (i := 9) (v := .int .i64 ((j : Int))) rfl (by kernel_rfl) (by kernel_rfl) (by kernel_rfl) (by kernel_rfl) (fun _ _ _ h => h) (Or.inl ⟨by kernel_rfl, fun w' hS => exec_move _ rfl _ rfl⟩) hHeld ?_
      try simp only [Act.put, List.setIfInBounds_toArray, List.set_cons_zero, List.set_cons_succ]
      refine take_d 69 (i := 10) (v := .int .i64 (((j + 1 : Nat) : Int))) rfl (by kernel_rfl) (by kernel_rfl) (by kernel_rfl) (by kernel_rfl) (fun _ _ _ h => h) (Or.inl ⟨by kernel_rfl, fun w' hS => exec_addG _ _ _ rfl _ _ _ rfl rfl (by omega) (by omega)⟩) hHeld ?_
      try simp only [Act.put, List.setIfInBounds_toArray, List.set_cons_zero, List.set_cons_succ]
      refine take_d 70 (i := 11) (v := .pointer (some ⟨bb, oo + (j + 1), none⟩)) rfl (by kernel_rfl) (by kernel_rfl) (by kernel_rfl) (by kernel_rfl) (fun _ _ _ h => h) (Or.inl ⟨by kernel_rfl, fun w' hS => exec_indexG _ _ _ rfl _ L c bb oo 1 (j + 1) rfl rfl rfl (by omega) (by kernel_rfl) _ (by omega)⟩) hHeld ?_
      try simp only [Act.put, List.setIfInBounds_toArray, List.set_cons_zero, List.set_cons_succ]
      refine take_d 71 (i := 12) (v := .slice A2 x2.length c2) rfl (by kernel_rfl) (by kernel_rfl) (by kernel_rfl) (by kernel_rfl) (fun _ _ _ h => h) (Or.inl ⟨by kernel_rfl, fun w' hS => exec_load_one _ _ rfl bb (oo + (j + 1)) rfl _ Tryd.underlying26 rfl _ ((hS.cell (p := ⟨bb, oo + (j + 1), none⟩) hbb).trans HC2.out)⟩) hHeld ?_
      try simp only [Act.put, List.setIfInBounds_toArray, List.set_cons_zero, List.set_cons_succ]
      refine wpAnyH_ready (rs := [13]) (by kernel_rfl) (by simp) (AllReadyH.cons rfl (fun K hK => ?_) AllReadyH.nil)
      rw [if_pos (by kernel_rfl)]
      refine wp_append_BD 72 rfl _ _ rfl w.heap.size (.slice none 0 0) [] rfl (RowB.nil_ _ _) w.heap.size _ x2 rfl (HU.out.below hHeld (Nat.le_refl _)) HXB.out (by have := HXL.out; simp; omega) (Nat.le_trans hbs0 hHeld.size) ?_
      intro v72 w72 ho72 hg72
      rw [List.nil_append] at ho72
      have hb72 := (Below.refl _ _).grown hg72 (Nat.le_refl _) (by intro k hk; cases hk)
      replace HO := hide (HO.out.keptB' hb72 (Nat.le_trans hbs0 hHeld.size))
      have HX := hide (show Below w.heap.size w _ from hHeld.trans (hb72.mono (Nat.le_trans hbs0 hHeld.size)))
      have HN := hide ho72
      obtain ⟨A72, c72, rfl⟩ := ho72.shape
      clear ho72 hg72 hb72
      refine hK.out _ _ HX.out (fun hHeld => ?_)
      clear HX hK K
      try simp only [Act.put, List.setIfInBounds_toArray, List.set_cons_zero, List.set_cons_succ]
      refine take_d 73 (i := 14) (v := .agg [Value.int .i64 X, .slice A72 x2.length c72].toArray) rfl (by kernel_rfl) (by kernel_rfl) (by kernel_rfl) (by kernel_rfl) (fun _ _ _ h => h) (Or.inl ⟨by kernel_rfl, fun w' hS => exec_build2 _ _ _ _ _ rfl _ _ rfl rfl [Value.int .i64 X, .slice A72 x2.length c72] (built_blob X A72 x2.length c72)⟩) hHeld ?_
      try simp only [Act.put, List.setIfInBounds_toArray, List.set_cons_zero, List.set_cons_succ]
      refine wpAnyH_ready (rs := [15]) (by kernel_rfl) (by simp) (AllReadyH.cons rfl (fun K hK => ?_) AllReadyH.nil)
      rw [if_pos (by kernel_rfl)]
      refine wp_blob1D 74 rfl _ rfl X (.slice A72 x2.length c72) rfl ?_
      intro g74 w74 hg74 hk74 hb74
      replace HO := hide (HO.out.keptB' hb74 (Nat.le_trans hbs0 hHeld.size))
      have HX := hide (show Below w.heap.size w _ from hHeld.trans (hb74.mono (Nat.le_trans hbs0 hHeld.size)))
      replace HN := hide (HN.out.keptB hb74)
      have HK := hide hk74
      clear hk74 hb74 hg74
      refine hK.out _ _ HX.out (fun hHeld => ?_)
      clear HX hK K
      try simp only [Act.put, List.setIfInBounds_toArray, List.set_cons_zero, List.set_cons_succ]
      refine wpAnyH_ready (rs := [16]) (by kernel_rfl) (by simp) (AllReadyH.cons rfl (fun K hK => ?_) AllReadyH.nil)
      rw [if_pos (by kernel_rfl)]
      refine wp_append_blobDR 75 rfl _ _ rfl w.heap.size V items rfl HO.out (Nat.le_trans hbs0 hHeld.size) (by omega) g74 X _ x2 rfl HK.out HN.out ?_
      intro v75 w75 ho75 hg75 hbz
      have HX := hide (show Below w.heap.size w w75 from hHeld.grown hg75 (Nat.le_trans hbs0 hHeld.size) hbz)
      have HO2 := hide ho75
      clear ho75 hg75 hbz
      refine hK.out _ _ HX.out (fun hHeld => ?_)
      clear HX hK K
      try simp only [Act.put, List.setIfInBounds_toArray, List.set_cons_zero, List.set_cons_succ]
      refine take_d 4 (i := 17) (v := v75) rfl (by kernel_rfl) (by kernel_rfl) (by kernel_rfl) (by kernel_rfl) (fun _ _ _ h => h) (Or.inl ⟨by kernel_rfl, fun w' hS => exec_assign _ rfl _ rfl⟩) hHeld ?_
      try simp only [Act.put, List.setIfInBounds_toArray, List.set_cons_zero, List.set_cons_succ]
      refine wpAnyH_done (by kernel_rfl) ?_ _
      go_wp2_with fail
      go_roundw
      case measure => simp [intOf]; omega
      case rel => exact ⟨j + 2, k + 1, items ++ [(X, x2)], by go_num, by omega, by rw [List.length_append, List.length_singleton]; omega, HO2.out, HTN.out, hHeld⟩
    · have i1 : ¬ (j : Int) < (L : Int) := by omega
      have e8 : k = m := by omega
      have HYES := hide (show R = some items by
        rw [← HTT.out, e8, List.drop_of_length_le (by omega)]
        simp [Msg.pairsB])
      clear e8
      obtain ⟨A3, c3, rfl⟩ := HO.out.shape
      go_wp2_with fail
      go_ret2
      exact .inl ⟨_, items, HYES.out, rfl, HO.out, HB.out⟩
end Go.Proofs.YtfinfkodjkfibaaDoor
