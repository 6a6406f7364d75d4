/- P1.2: a length with noughts ahead, or that is too great, is none. Condition: the library's tables are laid (tied to the program's text). -/
import Derived.Test.YtijhcdmjiclnnaaDoorFrame
import Derived.Test.YtijhcdmjiclnnaaDoorTied
import Derived.Test.YtijhcdmjiclnnaaDoorWakes01
import Derived.Test.YtijhcdmjiclnnaaDoorTake
import Derived.Test.YtijhcdmjiclnnaaDoorDigits
import Derived.Test.YtijhcdmjiclnnaaDoorAppZ
import Derived.Test.YtijhcdmjiclnnaaDoorLengthsLaw
import Derived.Test.YtijhcdmjiclnnaaDoorSpoilB
import Derived.Test.YtijhcdmjiclnnaaDoorWithin
namespace Go.Proofs.YtijhcdmjiclnnaaDoor.LawCodeLengths
open Go Go.RowKit Go.ChangeShapes Go.WideShapes Go.ChangeAt Go.Proofs.YtijhcdmjiclnnaaDoor
set_option linter.unusedVariables false

/-- The last cell of a row of one's own is turned. -/
theorem row_set {w : World} {base g cap L : Nat} {cur xs : List Int} {f : Nat × Nat} (z : Int) (hz : 0 ≤ z ∧ z < 256) (hbg : base ≤ g) (hB : BlkF w g 5 (u8s cur) f) (hf : f.2 = 0 ∨ cap ≤ f.1) (hn : L + 1 ≤ cap) (hm : cap ≤ maxLen) (hcl : cur.length = cap) (hcb : Bytes cur)
    (hxl : xs.length = L) (y : Int) (ht : cur.take (L + 1) = xs ++ [y]) : RowB (w.setCell ⟨g, L, none⟩ (.int .u8 z)) base (.slice (some ⟨g, 0, none⟩) (L + 1) cap) (xs ++ [z]) := by
  have hl : (xs ++ [z]).length = L + 1 := by rw [List.length_append, hxl]; rfl
  rw [← hl]
  refine .inr ⟨g, cap, cur.set L z, f, rfl, hbg, blkF_set hB L z, hf, by omega, hm, by rw [List.length_set]; exact hcl, fun x hx => ?_, ?_⟩
  · rcases List.mem_or_eq_of_mem_set hx with h | h
    · exact hcb x h
    · subst h; exact hz
  · rw [hl, List.take_set, ht, ← hxl]
    simp

theorem nums_lit (c : UInt8) : strB { data := #[c] } = [(c.toNat : Int)] := rfl

set_option maxHeartbeats 4000000 in
theorem walk (w : World) (ht : Tab w w.heap.size) (n : Int) (hin : In64 n) (nb : Bool) :
    Calls Tryd.prog 8 #[.int .i64 n, .bool nb] w fun e w' => e = .returned (.bool true) ∧ Below w.heap.size w w' := by
  have HT := hide ht
  obtain ⟨ha1, ha2⟩ := hin
  clear ht
  obtain ⟨m, ek, hm⟩ : ∃ a : Nat, within n 20 = (a : Int) ∧ a < 20 := by
    unfold within; rw [if_neg (by omega)]
    exact ⟨(n % 20).toNat, by omega, by omega⟩
  have HT' := hide (fun (w' : World) (hb : Below w.heap.size w w') => (HT.out.below hb (Nat.le_refl _)).more hb.size)
  obtain ⟨Z, HZ⟩ : ∃ z, Hid (List.replicate m (0 : Int) = z) := ⟨_, hide rfl⟩
  have HZL := hide (show Z.length = m by rw [← HZ.out, List.length_replicate])
  have HZB := hide (show Bytes Z from HZ.out ▸ bytes_rep m)
  obtain ⟨D, HD⟩ : ∃ d, Hid (digB m = d) := ⟨_, hide rfl⟩
  have HDB := hide (show Bytes D from HD.out ▸ digB_bytes m)
  have HDL := hide (show D.length ≤ 19 from HD.out ▸ digits_bound m (by omega))
  have HF := hide (show takeF (D ++ [58] ++ Z ++ [44]) = some (Z, []) by
    have h := take_net Z [] (by rw [HZL.out]; omega)
    rw [netF, HZL.out, HD.out, List.append_nil] at h
    exact h)
  have HF0 := hide (show takeF (48 :: D ++ [58] ++ Z ++ [44]) = none by
    rw [← HD.out]
    by_cases h : m < 10
    · rw [digB_one h]
      exact take_nought _ (by unfold isDg; omega) _
    · rw [digB_more h, show m / 10 = 1 by omega, digB_one (by omega)]
      exact take_nought _ (by unfold isDg; omega) _)
  have HF3 := hide (show takeF (D ++ [58] ++ Z ++ [59]) = none by
    have h := take_other Z [] 59 (by omega) (by rw [HZL.out]; omega)
    rw [HZL.out, HD.out] at h
    simpa using h)
  obtain ⟨K, HK⟩ : ∃ k : Nat, Hid (k = 16385) := ⟨_, hide rfl⟩
  obtain ⟨Y, HY⟩ : ∃ z, Hid (List.replicate K (0 : Int) = z) := ⟨_, hide rfl⟩
  have HYL := hide (show Y.length = K by rw [← HY.out, List.length_replicate])
  have HYB := hide (show Bytes Y from HY.out ▸ bytes_rep K)
  obtain ⟨E, HE⟩ : ∃ d, Hid (digB K = d) := ⟨_, hide rfl⟩
  have HEB := hide (show Bytes E from HE.out ▸ digB_bytes K)
  have HEL := hide (show E.length ≤ 19 from HE.out ▸ digits_bound K (by have := HK.out; omega))
  have HF2 := hide (show takeF (E ++ [58] ++ Y ++ [44]) = none by
    have h := take_great Y (Y ++ [44]) (by rw [HYL.out]; have := HK.out; omega)
    rw [HYL.out, HE.out] at h
    simpa using h)
  have HDG := hide (fun w' => HD.out ▸ Digits_ref m (by omega) w')
  have HDK := hide (fun w' => HE.out ▸ Digits_ref K (by have := HK.out; omega) w')
  have HKI := hide (show (K : Int) = 16385 by have := HK.out; omega)
  have HDK := hide (fun w' => HKI.out ▸ HDK.out w')
  clear HD HE
  have H44 := hide (show Bytes [44] from fun x hx => by simp at hx; omega)
  go_enter Tryd.func8, Tryd.ntmps8
  go_wp2_with fail
  refine (within_any n 20 w ha1 ha2 (by omega)).mono ?_
  rintro e w' ⟨rfl, rfl⟩
  rw [ek]
  clear ek
  go_wp2_with fail
  refine (HDG.out w).mono ?_
  rintro e w1 ⟨s, rfl, hs, hb1⟩
  have HS := hide hs
  have HB1 := hide hb1
  have hz1 := hb1.size
  have hs19 : s.size ≤ 19 := by rw [← strB_len, hs]; exact HDL.out
  clear hs hb1
  cases nb
  case true =>
    have hsz : ({ data := #[48] } : ByteArray).size + s.size ≤ 9223372036854775807 := by have : ({ data := #[48] } : ByteArray).size = 1 := rfl; omega
    have hsz2 : (({ data := #[48] } : ByteArray) ++ s).size + ({ data := #[58] } : ByteArray).size ≤ 9223372036854775807 := by have : ({ data := #[58] } : ByteArray).size = 1 := rfl; have : ({ data := #[48] } : ByteArray).size = 1 := rfl; rw [ByteArray.size_append]; omega
    have HSB := hide (show strB (({ data := #[48] } : ByteArray) ++ s ++ ({ data := #[58] } : ByteArray)) = 48 :: D ++ [58] by rw [strB_app, strB_app, HS.out]; rfl)
    have HSZ := hide (show (({ data := #[48] } : ByteArray) ++ s ++ ({ data := #[58] } : ByteArray)).size ≤ 100 by rw [← strB_len, HSB.out]; have := HDL.out; simp; omega)
    go_wp2_with (first
      | (refine wpList_to_bytes rfl _ rfl _ rfl (by exact Nat.le_trans HSZ.out (by decide)) ?_; intro v26 w2 ho26 hb26; rw [HSB.out] at ho26; have HO26 := hide ho26; have HB2 := hide (HB1.out.trans (hb26.mono hz1)); have hz2 := hb26.size; clear ho26 hb26)
      | (at_builtin; refine wpList_append_Z rfl _ _ rfl w.heap.size _ (48 :: D ++ [58]) rfl (HO26.out.more hz1) (by simp) .i64 m rfl (by have := HDL.out; simp; omega) (by omega) ?_; intro v28 w3 ho28 hg28; have HB3 := hide (HB2.out.grown hg28 (by omega) (fun k hk => ((HO26.out.more hz1).base_ k hk).1)); have hz3 := hg28.size; rw [HZ.out] at ho28; have HO28 := hide ho28; clear ho28 hg28 HO26 HB2)
      | (refine wpList_lit rfl _ _ rfl [44] rfl (by omega) (by omega) rfl ?_; intro g4 w4 bk4 hg4 hb4; have HL4 := hide ((RowB.of_blk (base := 0) bk4 (by omega) H44.out (by decide)).reads); have HO29 := hide (HO28.out.keptB hb4); have HB4 := hide (HB3.out.trans (hb4.mono (by omega))); have hz4 := hb4.size; clear bk4 hg4 hb4 HO28 HB3)
      | (at_builtin; refine wpList_append_B rfl _ _ rfl w.heap.size _ (48 :: D ++ [58] ++ Z) rfl HO29.out _ _ [44] rfl HL4.out H44.out (by have := HDL.out; have := HZL.out; simp; omega) (by omega) ?_; intro v31 w5 ho31 hg31; have HB5 := hide (HB4.out.grown hg31 (by omega) (fun k hk => (HO29.out.base_ k hk).1)); have hz5 := hg31.size; have HO31 := hide ho31; clear ho31 hg31 HO29 HL4 HB4))
    have HCALL := hide (TakeNet_any _ _ w5 HO31.out.reads HO31.out.bytes (by have := HDL.out; have := HZL.out; simp; omega))
    obtain ⟨A31, c31, rfl⟩ := HO31.out.shape
    go_wp2_with fail
    refine HCALL.out.mono ?_
    rintro e w6 (⟨v1, v2, x, r, hx, _⟩ | ⟨hx, rfl, rfl⟩)
    case inl => rw [HF0.out] at hx; cases hx
    clear hx HCALL
    go_wp2_with fail
    refine (wakes01 w5 (HT'.out _ HB5.out)).mono ?_
    rintro e w20 ⟨rfl, hb20⟩
    have HB20 := hide (HB5.out.trans (hb20.mono HB5.out.size))
    clear hb20
    go_wp2_with fail
    go_ret
    exact ⟨rfl, HB20.out⟩
  case false =>
    have hsz2 : s.size + ({ data := #[58] } : ByteArray).size ≤ 9223372036854775807 := by have : ({ data := #[58] } : ByteArray).size = 1 := rfl; omega
    have HSB := hide (show strB (s ++ ({ data := #[58] } : ByteArray)) = D ++ [58] by rw [strB_app, HS.out]; rfl)
    have HSZ := hide (show (s ++ ({ data := #[58] } : ByteArray)).size ≤ 100 by rw [← strB_len, HSB.out]; have := HDL.out; simp; omega)
    go_wp2_with (first
      | (refine wpList_to_bytes rfl _ rfl _ rfl (by exact Nat.le_trans HSZ.out (by decide)) ?_; intro v26 w2 ho26 hb26; rw [HSB.out] at ho26; have HO26 := hide ho26; have HB2 := hide (HB1.out.trans (hb26.mono hz1)); have hz2 := hb26.size; clear ho26 hb26)
      | (at_builtin; refine wpList_append_Z rfl _ _ rfl w.heap.size _ (D ++ [58]) rfl (HO26.out.more hz1) (by simp) .i64 m rfl (by have := HDL.out; simp; omega) (by omega) ?_; intro v28 w3 ho28 hg28; have HB3 := hide (HB2.out.grown hg28 (by omega) (fun k hk => ((HO26.out.more hz1).base_ k hk).1)); have hz3 := hg28.size; rw [HZ.out] at ho28; have HO28 := hide ho28; clear ho28 hg28 HO26 HB2)
      | (refine wpList_lit rfl _ _ rfl [44] rfl (by omega) (by omega) rfl ?_; intro g4 w4 bk4 hg4 hb4; have HL4 := hide ((RowB.of_blk (base := 0) bk4 (by omega) H44.out (by decide)).reads); have HO29 := hide (HO28.out.keptB hb4); have HB4 := hide (HB3.out.trans (hb4.mono (by omega))); have hz4 := hb4.size; clear bk4 hg4 hb4 HO28 HB3)
      | (at_builtin; refine wpList_append_B rfl _ _ rfl w.heap.size _ (D ++ [58] ++ Z) rfl HO29.out _ _ [44] rfl HL4.out H44.out (by have := HDL.out; have := HZL.out; simp; omega) (by omega) ?_; intro v31 w5 ho31 hg31; have HB5 := hide (HB4.out.grown hg31 (by omega) (fun k hk => (HO29.out.base_ k hk).1)); have hz5 := hg31.size; have HO31 := hide ho31; clear ho31 hg31 HO29 HL4 HB4))
    obtain ⟨P, HP⟩ : ∃ p, Hid (D ++ [58] ++ Z = p) := ⟨_, hide rfl⟩
    rw [HP.out] at HF HF3 HO31
    have HPB := hide (show Bytes P from fun x hx => HO31.out.bytes x (by simp [hx]))
    have HPL := hide (show P.length ≤ 100 by rw [← HP.out]; have := HDL.out; have := HZL.out; simp; omega)
    obtain ⟨L, HL⟩ : ∃ n, Hid (P.length = n) := ⟨_, hide rfl⟩
    obtain ⟨M, HM⟩ : ∃ n, Hid ((P ++ [44]).length = n) := ⟨_, hide rfl⟩
    have hM : M = L + 1 := by rw [← HM.out, ← HL.out, List.length_append]; rfl
    have hL : L ≤ 100 := by have := HPL.out; rw [HL.out] at this; exact this
    have HRD := hide HO31.out.reads
    rcases HO31.out with ⟨_, h⟩ | ⟨g, cap, cur, f, rfl, hbg, hB, hf, hn, hcm, hcl, hcb, htake⟩
    · simp at h
    have hglt := hB.lt
    have HBF := hide hB
    have HFF := hide hf
    have HCL := hide hcl
    have HCB := hide hcb
    have HTK := hide htake
    rw [HM.out] at HTK HRD hn
    rw [HM.out]
    unfold maxLen at hcm
    have HC44 := hide (show cur.getD L 0 = 44 by
      have h := HTK.out
      have h2 : (cur.take M).getD L 0 = 44 := by
        rw [h, List.getD_eq_getElem?_getD, List.getElem?_append_right (by rw [HL.out]; exact Nat.le_refl _), HL.out, Nat.sub_self]; rfl
      rw [List.getD_eq_getElem?_getD, List.getElem?_take_of_lt (by omega), ← List.getD_eq_getElem?_getD] at h2
      exact h2)
    clear hB hf hcl hcb htake HO31 HSB HSZ hsz2 HDG
    have HCALL := hide (TakeNet_any _ _ w5 HRD.out (HPB.out.app H44.out) (by rw [HM.out]; omega))
    go_wp2_with fail
    refine HCALL.out.mono ?_
    rintro e w6 (⟨v7, v8, x, r, hx, rfl, ho7, ho8, hb6⟩ | ⟨hx, _, _⟩)
    case inr => rw [HF.out] at hx; cases hx
    rw [HF.out] at hx
    injection hx with hx
    injection hx with hx1 hx2
    subst hx1
    obtain ⟨A7, c7, rfl⟩ := ho7.shape
    have HB6 := hide (HB5.out.trans (hb6.mono (by omega)))
    have HB56 := hide hb6
    have hz6 := hb6.size
    clear ho7 ho8 hb6 hx2 HCALL HF
    rw [HZL.out]
    go_wp2_with fail
    refine (HDK.out w6).mono ?_
    rintro e w7 ⟨s2, rfl, hs2, hb7⟩
    have HS2 := hide hs2
    have HB57 := hide (HB56.out.trans (hb7.mono (by omega)))
    have HB7 := hide (HB6.out.trans (hb7.mono (by omega)))
    have hz7 := hb7.size
    have hs219 : s2.size ≤ 19 := by rw [← strB_len, hs2]; exact HEL.out
    clear hs2 hb7 HDK
    have hsz2 : s2.size + ({ data := #[58] } : ByteArray).size ≤ 9223372036854775807 := by have : ({ data := #[58] } : ByteArray).size = 1 := rfl; omega
    have HSB := hide (show strB (s2 ++ ({ data := #[58] } : ByteArray)) = E ++ [58] by rw [strB_app, HS2.out]; rfl)
    have HSZ := hide (show (s2 ++ ({ data := #[58] } : ByteArray)).size ≤ 100 by rw [← strB_len, HSB.out]; have := HEL.out; simp; omega)
    have hz57 : w5.heap.size ≤ w7.heap.size := HB57.out.size
    go_wp2_with (first
      | (refine wpList_to_bytes rfl _ rfl _ rfl (by exact Nat.le_trans HSZ.out (by decide)) ?_; intro v54 w8 ho54 hb54; rw [HSB.out] at ho54; have HO54 := hide (ho54.more hz57); have HB8 := hide (HB57.out.trans (hb54.mono (by omega))); have hz8 := hb54.size; clear ho54 hb54)
      | (at_builtin; refine wpList_append_Z rfl _ _ rfl w5.heap.size _ (E ++ [58]) rfl HO54.out (by simp) .i64 K (by rw [HKI.out]; rfl) (by have := HEL.out; have := HK.out; simp; omega) (by omega) ?_; intro v55 w9 ho55 hg55; have HB9 := hide (HB8.out.grown hg55 (by omega) (fun k hk => (HO54.out.base_ k hk).1)); have hz9 := hg55.size; rw [HY.out] at ho55; have HO55 := hide ho55; clear ho55 hg55 HO54 HB8)
      | (refine wpList_lit rfl _ _ rfl [44] rfl (by omega) (by omega) rfl ?_; intro g10 w10 bk10 hg10 hb10; have HL10 := hide ((RowB.of_blk (base := 0) bk10 (by omega) H44.out (by decide)).reads); have HO57 := hide (HO55.out.keptB hb10); have HB10 := hide (HB9.out.trans (hb10.mono (by omega))); have hz10 := hb10.size; clear bk10 hg10 hb10 HO55 HB9)
      | (at_builtin; refine wpList_append_B rfl _ _ rfl w5.heap.size _ (E ++ [58] ++ Y) rfl HO57.out _ _ [44] rfl HL10.out H44.out (by have := HEL.out; have := HYL.out; have := HK.out; simp; omega) (by omega) ?_; intro v59 w11 ho59 hg59; have HB11 := hide (HB10.out.grown hg59 (by omega) (fun k hk => (HO57.out.base_ k hk).1)); have hz11 := hg59.size; have HO59 := hide ho59; clear ho59 hg59 HO57 HL10 HB10))
    have HCALL := hide (TakeNet_any _ _ w11 HO59.out.reads HO59.out.bytes (by have := HEL.out; have := HYL.out; have := HK.out; simp; omega))
    obtain ⟨A59, c59, rfl⟩ := HO59.out.shape
    refine HCALL.out.mono ?_
    rintro e w12 (⟨v1, v2, x, r, hx, _⟩ | ⟨hx, rfl, rfl⟩)
    case inl => rw [HF2.out] at hx; cases hx
    have HBF11 := hide (HBF.out.below HB11.out hglt)
    have c1 := blkF_get HBF11.out L 44 (by rw [HCL.out]; omega) HC44.out
    have f1 := HBF11.out.frozen L (by have := HFF.out; omega)
    have m1 : (M : Int) - 1 = (L : Int) := by omega
    have m2 : (0 : Int) ≤ (L : Int) := by omega
    have m3 : (L : Int) < (M : Int) := by omega
    clear hx HCALL HO59
    have HRS := hide (row_set (xs := P) (base := w.heap.size) 59 (by omega) hbg HBF11.out HFF.out (by omega) (by unfold maxLen; exact hcm) HCL.out HCB.out HL.out 44 (by rw [← hM]; exact HTK.out))
    have hRL0 := hM
    have HBS := hide (show Below w.heap.size w (w11.setCell ⟨g, L, none⟩ (.int .u8 59)) from
      (HB5.out.trans (HB11.out.mono (by omega))).grown (grown_setCells [.int .u8 59] w11 L).1 (by have := HB5.out.size; have := HB11.out.size; omega) (fun k hk => by injection hk with hk; omega))
    obtain ⟨W, HW⟩ : ∃ W, Hid (w11.setCell ⟨g, L, none⟩ (.int .u8 59) = W) := ⟨_, hide rfl⟩
    rw [HW.out] at HRS HBS
    have HRL : (P ++ [59]).length = M := by rw [List.length_append, HL.out, hM]; rfl
    have HCALL := hide (TakeNet_any _ _ W HRS.out.reads HRS.out.bytes (by rw [HRL]; omega))
    have HRL := hide HRL
    go_wp2_with fail
    show Calls _ _ _ (w11.setCell ⟨g, L, none⟩ (.int .u8 59)) _
    rw [HW.out]
    refine HCALL.out.mono ?_
    rintro e w13 (⟨v1, v2, x, r, hx, _⟩ | ⟨hx, rfl, rfl⟩)
    case inl => rw [HF3.out] at hx; cases hx
    clear hx HCALL
    go_wp2_with fail
    refine (wakes01 W (HT'.out _ HBS.out)).mono ?_
    rintro e w20 ⟨rfl, hb20⟩
    have HB20 := hide (HBS.out.trans (hb20.mono HBS.out.size))
    clear hb20
    go_wp2_with fail
    go_ret
    exact ⟨rfl, HB20.out⟩

set_option maxRecDepth 100000 in
theorem lifted (os : Os) (started : os.Started) (H : Type) (enc : TypeId × Value → H) :
    ReturnsInHanded {} Tryd.checked os 8 .any (fun w args => (Rows.codeLengthsSpec.pre enc Tryd.prog Tryd.f8 [] false w args ∧ laidMetH Tryd.prog laidD w) ∧ sizedMet enc Tryd.prog Tryd.f8 (OpenSpec.ofChange Rows.codeLengthsSpec) false w args)
      (Rows.codeLengthsSpec.post enc Tryd.prog Tryd.f8 false true false false) := by
  refine returnsInHanded_of_change_and (C := Tryd.checked) (X := fun w _ => laidMetH Tryd.prog laidD w) (fun _ _ _ hh h => h.of_heap hh) own started (by kernel_rfl) Tryd.func8
    (ChangeSpec.witness_shaped (enc := enc) (C := Tryd.checked) (os := os) (X := fun w _ => laidMetH Tryd.prog laidD w) false (World.doorLaid Tryd.prog doorSteps os) #[.int .i64 0, .bool false] 8 rfl (World.shaped_of_RefB (by kernel_rfl) (by kernel_rfl)) (by kernel_rfl) (by kernel_rfl) (by kernel_rfl) (door_met os _)) ?_
  intro W base args ds gs before hval0 hW _ _ hL _
  have hT := tab_of hL
  have hval : ∀ (j : Nat) t v, Tryd.f8.params[j]? = some t → args[j]? = some v → Value.okWide Tryd.prog W .any base t v := hval0
  have hW' := hW
  obtain ⟨p, q, hA0, hV, rfl, hfz, hnd⟩ := hW
  have hA : DataW.TrodAll enc Tryd.prog W 0 (fun _ => true) true Tryd.f8.params.toList args.toList ds p := hA0
  rw [Tryd.params8] at hA hval
  obtain ⟨v0, vs0, d0, ds0, p0, q0, hargs, rfl, rfl, h0, r0⟩ := trodAll_cons hA
  obtain ⟨v1, vs1, d1, ds1, p1, q1, rfl, rfl, rfl, h1, r1⟩ := trodAll_cons r0
  obtain ⟨rfl, rfl, rfl⟩ := trodAll_nil r1
  obtain rfl : args = #[v0, v1] := by cases args; simp_all
  obtain ⟨rfl, rfl⟩ := trodVars_none hV
  obtain ⟨a0, rfl, rfl, rfl, wf0⟩ := open_int Tryd.underlying3 (hval 0 3 v0 rfl rfl) h0
  obtain ⟨a1, rfl, rfl, rfl⟩ := open_bool Tryd.underlying4 (hval 1 4 v1 rfl rfl) h1
  clear hA0 hval0
  refine (walk W hT a0 (in64_wf wf0) a1).mono fun e W' ⟨he, bel⟩ => ?_
  subst he
  exact ⟨_, rfl, _, _, _, [], _, [], hW', trodAll_mk1 (shut_bool Tryd.underlying4 _), (trodAll_cons_mk (shut_int Tryd.underlying3 wf0) (trodAll_cons_mk (shut_bool Tryd.underlying4 _) trodAll_mk0)), rfl, bel.frame _, fun h => by cases h⟩

theorem over : Rows.codeLengthsRow.holds Tryd.pinned (OpenSpec.ofChange Rows.codeLengthsSpec) :=
  OpenClaim.holds_of_wide 8 Tryd.f8 rfl rfl rfl rfl rfl rfl rfl ⟨rfl, rfl, rfl, rfl, rfl⟩ rfl rfl rfl rfl rfl (by kernel_rfl) Tryd.func8 (by kernel_rfl)
    (of_decide_eq_true (by kernel_rfl)) (by unfold Func.isWrapper; rw [if_neg (of_decide_eq_false (by kernel_rfl))]; exact ⟨rfl, rfl⟩)
    (fun os started H enc _ => lifted os started H enc)

theorem proved : Rows.CodeLengthsCardSaid :=
  Claim7.holds_tied_plain_at .later [] Rows.codeLengthsCard.laidKinds true Rows.codeLengthsCard.stood.harness false
    over (fun _ h => by cases h) (by kernel_rfl) (fun _ h => by cases h) codeLengths_row_tie rfl ⟨rfl, rfl⟩ (by kernel_rfl) rfl
    (fun f fn hf hfn => by
      obtain rfl : f = 8 := Option.some.inj ((show Tryd.prog.funcNamed "aumbry/aumbrylaw01.CodeLengths" = some 8 by kernel_rfl).symm.trans hf) |>.symm
      obtain rfl : fn = Tryd.f8 := (Option.some.inj (Tryd.func8.symm.trans hfn)).symm
      exact ⟨by kernel_rfl, fun j t ht => by
        have ht' : Tryd.f8.params[j]? = some t := ht
        rw [Tryd.params8] at ht'
        have hm : t ∈ [3, 4] := by simpa using Array.mem_of_getElem? ht'
        have hall : ([3, 4].all fun u => !Tryd.prog.wantsStandIn u) = true := by kernel_rfl
        exact (show Tryd.prog.wantsStandIn t = false by simpa using List.all_eq_true.1 hall t hm)⟩)
    (by kernel_rfl)
end Go.Proofs.YtijhcdmjiclnnaaDoor.LawCodeLengths
