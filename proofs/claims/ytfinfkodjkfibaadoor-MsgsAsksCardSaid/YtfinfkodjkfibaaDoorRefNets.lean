/- The reference's digits of a number: it calls itself.
The reference's rows.
The document's blobs: blobs as bytes. Condition: at most a thousand blobs of at most a million bytes. -/
import Derived.Test.YtfinfkodjkfibaaDoorB32All
import Derived.Test.YtfinfkodjkfibaaDoorTakeD
import Derived.Test.YtfinfkodjkfibaaDoorNets
import Derived.Deep.RegionHeld3
import Derived.LoopIn
import Derived.Deep.DeepCutAuto
import Derived.Test.YtfinfkodjkfibaaDoorMsgWrite
import Derived.Test.YtfinfkodjkfibaaDoorPutBoth
namespace Go.Proofs.YtfinfkodjkfibaaDoor
open Go Go.RowKit
set_option linter.unusedVariables false

theorem strB_app (a b : ByteArray) : strB (a ++ b) = strB a ++ strB b := by
  unfold strB
  rw [ByteArray.data_append, Array.toList_append, List.map_append]

theorem wp_lit1 {o : Oper} {a : Act} {w : World} {K : Act → World → Prop} {Q : Exit → Act → World → Prop} (x : Operand) (ho : o.op = .buildSlice 26 1 #[(0, x)]) (z : Int) (hx : a.eval x = .int .u8 z)
    (h : ∀ g w', Blk w' g 5 (u8s [z]) → w.heap.size ≤ g → Below w.heap.size w w' → K (a.put o.dst (.slice (some ⟨g, 0, none⟩) 1 1)) w') : o.wp Tryd.prog a w K Q := by
  obtain ⟨i, zz, ht, hi, hz, hsize, hby, hzs, _, _⟩ := el_u8
  have hz0 := u8_zero hi hz
  subst hz0
  refine wp_buildSlice 26 5 1 _ ho #[.int .u8 z] i (.int .u8 0) ht hi hz (by rw [hsize]; omega) (by rw [hsize]; omega) ?_ (h _ _ (Blk.new w 5 (u8s [z])) (Nat.le_refl _) ((Below.refl _ _).alloc (Nat.le_refl _) _))
  have e : (#[(0, x)].map fun (p : Nat × Operand) => (p.1, a.eval p.2)).toList = ([Value.int IntKind.u8 z].zipIdx 0).map fun x => (x.2, x.1) := by simp [hx]
  rw [e, hsize]
  exact Great.fill_flat _ _ (fun v hv => by simp at hv; subst hv; rfl) (by simp)

theorem wp_lit1D {o : Oper} {a : Act} {w : World} {K : Act → World → Prop} {Q : Exit → Act → World → Prop} (x : Operand) (ho : o.op = .buildSlice 26 1 #[(0, x)]) (d : Nat) (hd : o.dst = some d) (z : Int) (hx : a.eval x = .int .u8 z)
    (h : ∀ g w', Blk w' g 5 (u8s [z]) → w.heap.size ≤ g → Below w.heap.size w w' → K (a.put (some d) (.slice (some ⟨g, 0, none⟩) 1 1)) w') : o.wp Tryd.prog a w K Q :=
  wp_lit1 x ho z hx fun g w' h1 h2 h3 => by rw [hd]; exact h g w' h1 h2 h3
theorem wp_convertD {P : Program} {o : Oper} {a : Act} {w w' : World} {K : Act → World → Prop} {Q : Exit → Act → World → Prop} (src dst : TypeId) (x : Operand) (ho : o.op = .convert src dst x) (d : Nat) (hd : o.dst = some d) (v u : Value) (hx : a.eval x = v)
    (hrun : (convert src dst v).run P w = .ok u w') (h : K (a.put (some d) u) w') : o.wp P a w K Q :=
  wp_convert src dst x v u ho hx hrun (by rw [hd]; exact h)

theorem digB_one {n : Nat} (h : n < 10) : digB n = [48 + (n : Int)] := by
  rw [digB, Lib.decDigits_one h]
  simp [UInt8.toNat_ofNat']
  omega
theorem digB_more {n : Nat} (h : ¬ n < 10) : digB n = digB (n / 10) ++ [48 + ((n % 10 : Nat) : Int)] := by
  rw [digB, Lib.decDigits, dif_neg h, List.map_append]
  unfold digB
  congr 1
  simp [UInt8.toNat_ofNat']
  omega

set_option maxRecDepth 100000 in
set_option maxHeartbeats 4000000 in
theorem Digits_ref : ∀ (n : Nat) (hn : n ≤ 9223372036854775807) (w : World),
    Calls Tryd.prog 47 #[.int .i64 (n : Int)] w fun e w' => ∃ s, e = .returned (.string s) ∧ strB s = digB n ∧ Below w.heap.size w w' := by
  intro n
  induction n using Nat.strongRecOn with
  | ind n ih =>
    intro hn w
    by_cases h10 : n < 10
    · have HD1 := hide (show Bytes [48 + (n : Int)] from fun x hx => by simp at hx; omega)
      have HDG := hide (digB_one h10)
      have i1 : (n : Int) < 10 := by omega
      have hw1 : IntKind.u8.wrap (48 + (n : Int)) = 48 + (n : Int) := by simp [IntKind.wrap, IntKind.bits, IntKind.signed]; omega
      have hw0 : IntKind.i64.wrap (48 + (n : Int)) = 48 + (n : Int) := by simp [IntKind.wrap, IntKind.bits, IntKind.signed]; omega
      obtain ⟨T, HT⟩ : ∃ t, Hid (strOfNums [48 + (n : Int)] = t) := ⟨_, hide rfl⟩
      have HTB := hide (show strB T = digB n by rw [← HT.out, strB_of HD1.out, HDG.out])
      clear ih
      go_enter Tryd.func47, Tryd.ntmps47
      go_wp2_with (first
        | (refine wpList_lit1v rfl _ rfl _ rfl (48 + (n : Int)) (by simp [hw1, hw0]) ?_; intro g1 w1 bk1 hg1 hb1; have BK := hide bk1; have HB := hide hb1; clear bk1 hg1 hb1)
        | (refine wpList_to_string rfl _ rfl _ _ [48 + (n : Int)] rfl ((RowB.of_blk (base := 0) BK.out (by omega) HD1.out (by simp [maxLen])).reads) ?_))
      go_ret
      exact ⟨_, rfl, by rw [HT.out]; exact HTB.out, HB.out⟩
    · have HDG := hide (digB_more h10)
      have IH := hide (ih (n / 10) (by omega) (by omega))
      have i1 : ¬ (n : Int) < 10 := by omega
      obtain ⟨q, HQ⟩ : ∃ q, Hid (n / 10 = q) := ⟨_, hide rfl⟩
      obtain ⟨d', HD'⟩ : ∃ d, Hid (n % 10 = d) := ⟨_, hide rfl⟩
      have hd' : d' < 10 := by rw [← HD'.out]; omega
      obtain ⟨d, hd⟩ : ∃ d : Int, d = (d' : Int) := ⟨_, rfl⟩
      have HDIG := hide (show digB q ++ [48 + d] = digB n by rw [HDG.out, HQ.out, HD'.out, hd])
      have HD1 := hide (show Bytes [48 + d] from fun x hx => by simp at hx; omega)
      have e1 : IntKind.i64.wrap ((n : Int).tdiv 10) = (q : Int) := by
        rw [← HQ.out, Int.tdiv_eq_ediv_of_nonneg (by omega)]; simp [IntKind.wrap, IntKind.bits, IntKind.signed]; omega
      have e2 : IntKind.i64.wrap ((n : Int).tmod 10) = d := by
        rw [hd, ← HD'.out, Int.tmod_eq_emod_of_nonneg (by omega)]; simp [IntKind.wrap, IntKind.bits, IntKind.signed]; omega
      have e1' : IntKind.i64.wrap ((n : Int) / 10) = (q : Int) := by rw [← Int.tdiv_eq_ediv_of_nonneg (by omega)]; exact e1
      have e2' : (n : Int).tmod 10 = d := by rw [hd, ← HD'.out, Int.tmod_eq_emod_of_nonneg (by omega)]; omega
      have e3 : IntKind.i64.wrap (48 + d) = 48 + d := by simp [IntKind.wrap, IntKind.bits, IntKind.signed]; omega
      have e4 : IntKind.u8.wrap (48 + d) = 48 + d := by simp [IntKind.wrap, IntKind.bits, IntKind.signed]; omega
      obtain ⟨T, HT⟩ : ∃ t, Hid (strOfNums [48 + d] = t) := ⟨_, hide rfl⟩
      have HTB := hide (show strB T = [48 + d] by rw [← HT.out, strB_of HD1.out])
      have HTL := hide (show T.size ≤ 1 by rw [← HT.out, strOfNums_size]; simp)
      have HQL := hide (digits_bound q (by have := HQ.out; omega))
      rw [HQ.out] at IH
      clear ih HDG hd HD' HQ
      have HB := hide (Below.refl w.heap.size w)
      go_enter Tryd.func47, Tryd.ntmps47
      go_upto_region 3 with fail

      refine wp_region_held_drew (S := fun w' => Below w.heap.size w w') (by kernel_rfl) (Below.refl _ _).drew (fun hHeld => ?_)
      refine take_d 10 (i := 0) (v := .int .i64 n) rfl (by kernel_rfl) (by kernel_rfl) (by kernel_rfl) (by kernel_rfl) (fun _ _ _ h => h) (Or.inl ⟨by kernel_rfl, fun w' hS => by go_simp⟩) hHeld ?_
      simp only [Act.put, List.setIfInBounds_toArray, List.set_cons_zero, List.set_cons_succ]
      refine take_d 11 (i := 1) (v := .int .i64 q) rfl (by kernel_rfl) (by kernel_rfl) (by kernel_rfl) (by kernel_rfl) (fun _ _ _ h => h) (Or.inl ⟨by kernel_rfl, fun w' hS => by go_simp⟩) hHeld ?_
      simp only [Act.put, List.setIfInBounds_toArray, List.set_cons_zero, List.set_cons_succ]
      refine take_d 13 (i := 3) (v := .int .i64 n) rfl (by kernel_rfl) (by kernel_rfl) (by kernel_rfl) (by kernel_rfl) (fun _ _ _ h => h) (Or.inl ⟨by kernel_rfl, fun w' hS => by go_simp⟩) hHeld ?_
      simp only [Act.put, List.setIfInBounds_toArray, List.set_cons_zero, List.set_cons_succ]
      refine take_d 14 (i := 4) (v := .int .i64 d) rfl (by kernel_rfl) (by kernel_rfl) (by kernel_rfl) (by kernel_rfl) (fun _ _ _ h => h) (Or.inl ⟨by kernel_rfl, fun w' hS => by go_simp⟩) hHeld ?_
      simp only [Act.put, List.setIfInBounds_toArray, List.set_cons_zero, List.set_cons_succ]
      refine take_d 15 (i := 5) (v := .int .i64 (48 + d)) rfl (by kernel_rfl) (by kernel_rfl) (by kernel_rfl) (by kernel_rfl) (fun _ _ _ h => h) (Or.inl ⟨by kernel_rfl, fun w' hS => by go_simp⟩) hHeld ?_
      simp only [Act.put, List.setIfInBounds_toArray, List.set_cons_zero, List.set_cons_succ]
      refine take_d 16 (i := 6) (v := .int .u8 (48 + d)) rfl (by kernel_rfl) (by kernel_rfl) (by kernel_rfl) (by kernel_rfl) (fun _ _ _ h => h) (Or.inl ⟨by kernel_rfl, fun w' hS => by go_simp⟩) hHeld ?_
      simp only [Act.put, List.setIfInBounds_toArray, List.set_cons_zero, List.set_cons_succ]
      refine wpAnyH_ready (rs := [2, 7]) (by kernel_rfl) (by simp) (AllReadyH.cons rfl (fun K hK => ?c1) (AllReadyH.cons rfl (fun K hK => ?b1) AllReadyH.nil))
      case c1 =>
        rw [if_pos (by kernel_rfl)]
        try go_simp
        refine (IH.out _).mono ?_
        rintro e wc1 ⟨s, rfl, hs, hb1⟩
        have HS := hide hs
        have hsT : s.size + T.size ≤ 9223372036854775807 := by have h1 := strB_len s; rw [hs] at h1; have := HQL.out; have := HTL.out; omega
        refine hK.out _ _ (hHeld.trans (hb1.mono hHeld.size)) (fun hHeld => ?_)
        clear hb1 hs
        clear hK K
        try simp only [Act.put, List.setIfInBounds_toArray, List.set_cons_zero, List.set_cons_succ]
        refine wpAnyH_ready (rs := [7]) (by kernel_rfl) (by simp) (AllReadyH.cons rfl (fun K hK => ?_) AllReadyH.nil)
        rw [if_pos (by kernel_rfl)]
        refine wp_lit1D (.tmp 16) (by kernel_rfl) 17 (by kernel_rfl) (48 + d) (by kernel_rfl) ?_
        intro g wb1 bk1 hg1 hb1
        have hge := hHeld.size
        have BK := hide bk1
        refine hK.out _ _ (hHeld.trans (hb1.mono hHeld.size)) (fun hHeld => ?_)
        clear hb1 bk1
        clear hK K
        try simp only [Act.put, List.setIfInBounds_toArray, List.set_cons_zero, List.set_cons_succ]
        refine wpAnyH_ready (rs := [8]) (by kernel_rfl) (by simp) (AllReadyH.cons rfl (fun K hK => ?_) AllReadyH.nil)
        rw [if_pos (by kernel_rfl)]
        refine wp_convertD 26 9 (.tmp 17) (by kernel_rfl) 18 (by kernel_rfl) _ (.string T) rfl (by rw [← HT.out]; exact run_to_string _ _ _ [48 + d] ((RowB.of_blk (base := 0) BK.out (by omega) HD1.out (by simp [maxLen])).reads)) ?_
        refine hK.out _ _ hHeld (fun hHeld => ?_)
        clear hK K
        try simp only [Act.put, List.setIfInBounds_toArray, List.set_cons_zero, List.set_cons_succ]
        refine take_d 19 (i := 9) (v := .string (s ++ T)) rfl (by kernel_rfl) (by kernel_rfl) (by kernel_rfl) (by kernel_rfl) (fun _ _ _ h => h) (Or.inl ⟨by kernel_rfl, fun w' hS => by go_simp⟩) hHeld ?_
        simp only [Act.put, List.setIfInBounds_toArray, List.set_cons_zero, List.set_cons_succ]
        refine take_d 2 (i := 10) (v := .string (s ++ T)) rfl (by kernel_rfl) (by kernel_rfl) (by kernel_rfl) (by kernel_rfl) (fun _ _ _ h => h) (Or.inl ⟨by kernel_rfl, fun w' hS => by go_simp⟩) hHeld ?_
        simp only [Act.put, List.setIfInBounds_toArray, List.set_cons_zero, List.set_cons_succ]
        refine wpAnyH_done (by kernel_rfl) ?_ _
        have HBz := hide (HB.out.trans (hHeld.mono (by omega)))
        go_wp2_with fail
        go_ret
        exact ⟨_, rfl, by rw [strB_app, HS.out, HTB.out]; exact HDIG.out, HBz.out⟩
      case b1 =>
        rw [if_pos (by kernel_rfl)]
        refine wp_lit1D (.tmp 16) (by kernel_rfl) 17 (by kernel_rfl) (48 + d) (by kernel_rfl) ?_
        intro g wb1 bk1 hg1 hb1
        have hge := hHeld.size
        have BK := hide bk1
        refine hK.out _ _ (hHeld.trans (hb1.mono hHeld.size)) (fun hHeld => ?_)
        clear hb1 bk1
        clear hK K
        try simp only [Act.put, List.setIfInBounds_toArray, List.set_cons_zero, List.set_cons_succ]
        refine wpAnyH_ready (rs := [2, 8]) (by kernel_rfl) (by simp) (AllReadyH.cons rfl (fun K hK => ?c2) (AllReadyH.cons rfl (fun K hK => ?v2) AllReadyH.nil))
        case c2 =>
          rw [if_pos (by kernel_rfl)]
          try go_simp
          refine (IH.out _).mono ?_
          rintro e wc1 ⟨s, rfl, hs, hb1⟩
          have HS := hide hs
          have hsT : s.size + T.size ≤ 9223372036854775807 := by have h1 := strB_len s; rw [hs] at h1; have := HQL.out; have := HTL.out; omega
          replace BK := hide (BK.out.below hb1 BK.out.lt)
          refine hK.out _ _ (hHeld.trans (hb1.mono hHeld.size)) (fun hHeld => ?_)
          clear hb1 hs
          clear hK K
          try simp only [Act.put, List.setIfInBounds_toArray, List.set_cons_zero, List.set_cons_succ]
          refine wpAnyH_ready (rs := [8]) (by kernel_rfl) (by simp) (AllReadyH.cons rfl (fun K hK => ?_) AllReadyH.nil)
          rw [if_pos (by kernel_rfl)]
          refine wp_convertD 26 9 (.tmp 17) (by kernel_rfl) 18 (by kernel_rfl) _ (.string T) rfl (by rw [← HT.out]; exact run_to_string _ _ _ [48 + d] ((RowB.of_blk (base := 0) BK.out (by omega) HD1.out (by simp [maxLen])).reads)) ?_
          refine hK.out _ _ hHeld (fun hHeld => ?_)
          clear hK K
          try simp only [Act.put, List.setIfInBounds_toArray, List.set_cons_zero, List.set_cons_succ]
          refine take_d 19 (i := 9) (v := .string (s ++ T)) rfl (by kernel_rfl) (by kernel_rfl) (by kernel_rfl) (by kernel_rfl) (fun _ _ _ h => h) (Or.inl ⟨by kernel_rfl, fun w' hS => by go_simp⟩) hHeld ?_
          simp only [Act.put, List.setIfInBounds_toArray, List.set_cons_zero, List.set_cons_succ]
          refine take_d 2 (i := 10) (v := .string (s ++ T)) rfl (by kernel_rfl) (by kernel_rfl) (by kernel_rfl) (by kernel_rfl) (fun _ _ _ h => h) (Or.inl ⟨by kernel_rfl, fun w' hS => by go_simp⟩) hHeld ?_
          simp only [Act.put, List.setIfInBounds_toArray, List.set_cons_zero, List.set_cons_succ]
          refine wpAnyH_done (by kernel_rfl) ?_ _
          have HBz := hide (HB.out.trans (hHeld.mono (by omega)))
          go_wp2_with fail
          go_ret
          exact ⟨_, rfl, by rw [strB_app, HS.out, HTB.out]; exact HDIG.out, HBz.out⟩
        case v2 =>
          rw [if_pos (by kernel_rfl)]
          refine wp_convertD 26 9 (.tmp 17) (by kernel_rfl) 18 (by kernel_rfl) _ (.string T) rfl (by rw [← HT.out]; exact run_to_string _ _ _ [48 + d] ((RowB.of_blk (base := 0) BK.out (by omega) HD1.out (by simp [maxLen])).reads)) ?_
          refine hK.out _ _ hHeld (fun hHeld => ?_)
          clear hK K
          try simp only [Act.put, List.setIfInBounds_toArray, List.set_cons_zero, List.set_cons_succ]
          refine wpAnyH_ready (rs := [2]) (by kernel_rfl) (by simp) (AllReadyH.cons rfl (fun K hK => ?_) AllReadyH.nil)
          rw [if_pos (by kernel_rfl)]
          try go_simp
          refine (IH.out _).mono ?_
          rintro e wc1 ⟨s, rfl, hs, hb1⟩
          have HS := hide hs
          have hsT : s.size + T.size ≤ 9223372036854775807 := by have h1 := strB_len s; rw [hs] at h1; have := HQL.out; have := HTL.out; omega
          refine hK.out _ _ (hHeld.trans (hb1.mono hHeld.size)) (fun hHeld => ?_)
          clear hb1 hs
          clear hK K
          try simp only [Act.put, List.setIfInBounds_toArray, List.set_cons_zero, List.set_cons_succ]
          refine take_d 19 (i := 9) (v := .string (s ++ T)) rfl (by kernel_rfl) (by kernel_rfl) (by kernel_rfl) (by kernel_rfl) (fun _ _ _ h => h) (Or.inl ⟨by kernel_rfl, fun w' hS => by go_simp⟩) hHeld ?_
          simp only [Act.put, List.setIfInBounds_toArray, List.set_cons_zero, List.set_cons_succ]
          refine take_d 2 (i := 10) (v := .string (s ++ T)) rfl (by kernel_rfl) (by kernel_rfl) (by kernel_rfl) (by kernel_rfl) (fun _ _ _ h => h) (Or.inl ⟨by kernel_rfl, fun w' hS => by go_simp⟩) hHeld ?_
          simp only [Act.put, List.setIfInBounds_toArray, List.set_cons_zero, List.set_cons_succ]
          refine wpAnyH_done (by kernel_rfl) ?_ _
          have HBz := hide (HB.out.trans (hHeld.mono (by omega)))
          go_wp2_with fail
          go_ret
          exact ⟨_, rfl, by rw [strB_app, HS.out, HTB.out]; exact HDIG.out, HBz.out⟩
end Go.Proofs.YtfinfkodjkfibaaDoor

namespace Go.Proofs.YtfinfkodjkfibaaDoor
open Go Go.RowKit Go.ChangeShapes Go.WideShapes Go.ChangeAt
set_option linter.unusedVariables false

set_option maxHeartbeats 1000000 in
theorem Net_ref (v : Value) (xs : List Int) (w : World) (hv : Bs w w.heap.size v xs) (hb : Bytes xs) (hn : xs.length ≤ 70368744177664) :
    Calls Tryd.prog 31 #[v] w fun e w' => ∃ v', e = .returned v' ∧ RowB w' w.heap.size v' (netF xs) ∧ Below w.heap.size w w' := by
  have HV := hide hv
  have HBX := hide hb
  obtain ⟨A, c, rfl, h1, h2, h3⟩ := hv.open_
  unfold maxLen at h2
  obtain ⟨n, HN⟩ : ∃ n, Hid (xs.length = n) := ⟨_, hide rfl⟩
  have HNF := hide (show netF xs = digB n ++ [58] ++ xs ++ [44] by rw [netF, HN.out])
  rw [HN.out] at h1 hn HV
  rw [HN.out]
  have HDL := hide (digits_bound n (by omega))
  have HDB := hide (digB_bytes n)
  obtain ⟨dd, HDD⟩ : ∃ d, Hid (digB n = d) := ⟨_, hide rfl⟩
  rw [HDD.out] at HNF HDL HDB
  clear hv hb h3
  go_enter Tryd.func31, Tryd.ntmps31
  go_wp2_with fail
  refine (Digits_ref n (by omega) w).mono ?_
  rintro e w1 ⟨s, rfl, hs, hb1⟩
  rw [HDD.out] at hs
  have hsl : s.size ≤ 19 := by rw [← strB_len, hs]; exact HDL.out
  have HS := hide hs
  have HB1 := hide hb1
  have hz1 := hb1.size
  clear hs hb1
  go_wp2_with (first
    | (refine wpList_to_bytes rfl _ rfl s rfl (by unfold maxLen; omega) ?_; intro v7 w2 ho7 hb2; have HO7 := hide ho7; have HB2 := hide hb2; have hz2 := hb2.size; clear ho7 hb2)
    | (refine wpList_lit rfl _ _ rfl [58] rfl (by omega) (by omega) rfl ?_; intro g3 w3 bk3 hg3 hb3; have HL3 := hide ((RowB.of_blk (base := 0) bk3 (by omega) (show Bytes [58] from fun x hx => by simp at hx; omega) (by decide)).reads); have HO7' := hide ((HO7.out.keptB hb3).more hz1); rw [HS.out] at HO7'; have HB3 := hide ((HB1.out.trans (HB2.out.mono hz1)).trans (hb3.mono (by omega))); have hz3 := hb3.size; clear bk3 hg3 hb3 HO7)
    | (at_builtin; refine wpList_append_B rfl _ _ rfl w.heap.size _ _ rfl HO7'.out _ _ [58] rfl HL3.out (by intro x hx; simp at hx; omega) (by have := HDL.out; simp; omega) (by omega) ?_; intro v9 w4 ho9 hg4; have hz4 := hg4.size; have HB4 := hide (HB3.out.grown hg4 (by omega) (fun k hk => (HO7'.out.base_ k hk).1)); have HO9 := hide ho9; have HV4 := hide (HV.out.below HB4.out (Nat.le_refl _)); clear ho9 hg4 HB3 HO7' HL3)
    | (at_builtin; refine wpList_append_B rfl _ _ rfl w.heap.size _ _ rfl HO9.out _ _ xs rfl HV4.out HBX.out (by have := HDL.out; simp [HN.out]; omega) (by omega) ?_; intro v12 w5 ho12 hg5; have hz5 := hg5.size; have HB5 := hide (HB4.out.grown hg5 (by omega) (fun k hk => (HO9.out.base_ k hk).1)); have HO12 := hide ho12; clear ho12 hg5 HB4 HO9 HV4)
    | (refine wpList_lit rfl _ _ rfl [44] rfl (by omega) (by omega) rfl ?_; intro g6 w6 bk6 hg6 hb6; have HL6 := hide ((RowB.of_blk (base := 0) bk6 (by omega) (show Bytes [44] from fun x hx => by simp at hx; omega) (by decide)).reads); have HO13 := hide (HO12.out.keptB hb6); have HB6 := hide (HB5.out.trans (hb6.mono (by omega))); have hz6 := hb6.size; clear bk6 hg6 hb6 HO12 HB5)
    | (at_builtin; refine wpList_append_B rfl _ _ rfl w.heap.size _ _ rfl HO13.out _ _ [44] rfl HL6.out (by intro x hx; simp at hx; omega) (by have := HDL.out; simp [HN.out]; omega) (by omega) ?_; intro v15 w7 ho15 hg7; have HB7 := hide (HB6.out.grown hg7 (by omega) (fun k hk => (HO13.out.base_ k hk).1)); have HO15 := hide ho15; clear ho15 hg7 HB6 HO13 HL6))
  go_ret
  exact ⟨_, rfl, by rw [HNF.out]; exact HO15.out, HB7.out⟩

set_option maxHeartbeats 1000000 in
theorem Nets_ref (v : Value) (rows : List (List Int)) (w : World) (hv : RowsB w w.heap.size v rows) (hb : ∀ x ∈ rows, Bytes x) (hl : ∀ x ∈ rows, x.length ≤ 1000000) (hn : rows.length ≤ 1000000) :
    Calls Tryd.prog 39 #[v] w fun e w' => ∃ v', e = .returned v' ∧ RowB w' w.heap.size v' (netsF rows) ∧ Below w.heap.size w w' := by
  have HV := hide hv
  have HBX := hide hb
  have HLX := hide hl
  obtain ⟨A, c, rfl, h1, h2, h3⟩ := hv.open_
  unfold maxLen at h2
  obtain ⟨n, HN⟩ : ∃ n, Hid (rows.length = n) := ⟨_, hide rfl⟩
  rw [HN.out] at h1 hn
  have HVV := hide (fun (w' : World) (hb : Below w.heap.size w w') => (hv.below hb (Nat.le_refl _)).open_)
  rw [HN.out]
  clear hv hb hl h3
  go_enter Tryd.func39, Tryd.ntmps39
  go_wp2_with fail
  go_loopw [3, 7] (fun v3 v7 wr => ∃ i : Nat, i ≤ n ∧ v7 = .int .i64 i ∧ RowB wr w.heap.size v3 (netsF (rows.take i)) ∧ Below w.heap.size w wr) (fun _ v7 _ => n - (intOf v7).toNat)
  case atStart => exact ⟨0, by omega, rfl, RowB.nil_ _ _, Below.refl _ _⟩
  case round =>
    obtain ⟨i, hi, rfl, ho, hbel⟩ := hrel
    have HO := hide ho
    have HB := hide hbel
    have hwz := hbel.size
    clear ho hbel
    by_cases hit : i < n
    · obtain ⟨A', c', e', _, _, h3⟩ := HVV.out wr HB.out
      injection e' with e1 e2 e3
      rw [← e1] at h3
      clear e1 e2 e3
      obtain ⟨b, o, rfl, hbb, hc⟩ := h3 (by rw [HN.out]; omega)
      obtain ⟨u, hu, hbu⟩ := hc i (by rw [HN.out]; exact hit)
      have hil : i < rows.length := by rw [HN.out]; exact hit
      have HBR := hide (HBX.out _ (List.getElem_mem hil))
      have HLR := hide (HLX.out _ (List.getElem_mem hil))
      have HNT := hide (netsF_take rows i hil)
      have HLN := hide (netsF_len rows HLX.out i (by omega))
      obtain ⟨r, HR⟩ : ∃ r, Hid (rows[i] = r) := ⟨_, hide rfl⟩
      rw [HR.out] at HBR HLR HNT hbu
      have HBU := hide hbu
      have HNB := hide (netF_bytes HBR.out)
      have HNL := hide (netF_len r HLR.out)
      have i0 : (0 : Int) ≤ (i : Int) := by omega
      have i1 : (i : Int) < (n : Int) := by omega
      have HCALL := hide (Net_ref u r wr (HBU.out.more hwz) HBR.out (by have := HLR.out; omega))
      clear hc hbu h3
      go_wp2_with fail
      refine HCALL.out.mono ?_
      rintro e w2 ⟨v14, rfl, ho14, hb2⟩
      have HO14 := hide ho14
      have HO' := hide (HO.out.keptB hb2)
      have HB2 := hide (HB.out.trans (hb2.mono hwz))
      have hz2 := hb2.size
      clear ho14 hb2 HO HB HCALL
      go_wp2_with (at_builtin; go_must (refine wpList_append_B rfl _ _ rfl w.heap.size _ _ rfl HO'.out _ _ (netF r) rfl HO14.out.reads HNB.out (by have := HNL.out; have := HLN.out; omega) (by omega) ?_); intro v15 w3 ho15 hg15; have HB3 := hide (HB2.out.grown hg15 (by omega) (fun k hk => (HO'.out.base_ k hk).1)); rw [← HNT.out] at ho15; have HO15 := hide ho15; clear ho15 hg15)
      go_roundw
      case measure => simp [intOf]; omega
      case rel => exact ⟨i + 1, by omega, by go_num, HO15.out, HB3.out⟩
    · have e : i = n := by omega
      subst e
      have i1 : ¬ (i : Int) < (i : Int) := by omega
      have HF := hide (show rows.take i = rows from List.take_of_length_le (by rw [HN.out]; exact Nat.le_refl _))
      rw [HF.out] at HO
      go_wp2_with fail
      go_ret
      exact ⟨_, rfl, HO.out, HB.out⟩
end Go.Proofs.YtfinfkodjkfibaaDoor

namespace Go.Proofs.YtfinfkodjkfibaaDoor
open Go Go.RowKit
set_option linter.unusedVariables false
set_option linter.unusedSimpArgs false
set_option maxRecDepth 100000
section
variable {o : Oper} {a : Act} {w : World}
theorem exec_index_blob (x y : Operand) (ho : o.op = .indexAddr 23 x y) (A : Option Addr) (n c b off j : Nat) (hx : a.eval x = .slice A n c) (hy : a.eval y = .int .i64 (j : Int)) (hA : A = some ⟨b, off, none⟩) (hj : j < n) : (execOp a.eval o).run Tryd.prog w = .ok (.value (.pointer (some ⟨b, off + j * 2, none⟩))) w := by
  subst hA
  unfold execOp
  simp only [ho, hx, hy]
  have h0 : (0 : Int) ≤ (j : Int) := by omega
  have h1 : (j : Int) < (n : Int) := by omega
  go_simp
theorem exec_field_blobat (x : Operand) (k off : Nat) (ho : o.op = .fieldAddr 44 x k) (g at_ : Nat) (hx : a.eval x = .pointer (some ⟨g, at_, none⟩)) (hk : [0, 1][k]? = some off) : (execOp a.eval o).run Tryd.prog w = .ok (.value (.pointer (some ⟨g, at_ + off, none⟩))) w := by
  unfold execOp
  simp only [ho, hx]
  have h7 : k < 2 := by have := (List.getElem?_eq_some_iff.1 hk).1; simpa using this
  obtain rfl | rfl : k = 0 ∨ k = 1 := by omega
  all_goals (simp at hk; subst hk; go_simp)
end
set_option maxHeartbeats 4000000
theorem blobs_ref (v : Value) (l : List Msg.Blb) (w : World) (hv : BlbsB w w.heap.size v l) (hb : ∀ x ∈ l, Bytes x.2 ∧ x.2.length ≤ 1000000) (hl : l.length ≤ 1000) (hin : ∀ x ∈ l, -9223372036854775808 ≤ x.1 ∧ x.1 ≤ 9223372036854775807) :
    Calls Tryd.prog 33 #[v] w fun e w' => ∃ v', e = .returned v' ∧ RowB w' w.heap.size v' (netsF (Msg.blobRows l)) ∧ Below w.heap.size w w' := by
  have HV := hide hv
  have HBY := hide hb
  have HIN := hide hin
  obtain ⟨A, c, rfl, h1, h2, h3⟩ := hv.open_
  have H3 := hide h3
  obtain ⟨n, HN⟩ : ∃ n, Hid (l.length = n) := ⟨_, hide rfl⟩
  have HP1 := hide (show ∀ z : Int, (putF z 1).length ≤ 8 from fun z => by
    have h : (putF z 1).length = wid 1 := putN_len _ _
    have := wid_le 1
    omega)
  have HRES := hide (show Msg.blobRows l = putF (n : Int) 1 :: l.flatMap Msg.blobR by rw [← HN.out]; rfl)
  obtain ⟨base, HBS⟩ : ∃ b, Hid (w.heap.size = b) := ⟨_, hide rfl⟩
  rw [HRES.out]
  rw [HN.out] at hl h1 HV ⊢
  rw [HBS.out] at HV H3 ⊢
  unfold maxLen at h2
  clear hv hb hin h3 HRES
  go_enter Tryd.func33, Tryd.ntmps33
  go_wp2_with fail
  refine (Put_ref (n : Int) 1 _ (by omega) (by omega)).mono ?_
  rintro e w1 ⟨v1, rfl, ho1, hb1⟩
  rw [HBS.out] at ho1 hb1
  have HP := hide ho1
  have HB1 := hide hb1
  have hz1 : base ≤ w1.heap.size := by have h1 := hb1.size; have h2 := HBS.out; omega
  have hp1 : (putF (n : Int) 1).length ≤ 70368744177664 := by have := HP1.out (n : Int); omega
  clear ho1 hb1
  go_wp2_with fail
  refine (Net_ref _ (putF (n : Int) 1) w1 HP.out.reads (putF_bytes _ _) hp1).mono ?_
  rintro e w3 ⟨v3, rfl, ho3, hb3⟩
  have HO3 := hide (show RowB w3 base v3 (netsF (putF (n : Int) 1 :: (l.take 0).flatMap Msg.blobR)) by simpa [netsF] using ho3.more hz1)
  have HB3 := hide (HB1.out.trans (hb3.mono hz1))
  clear ho3 hb3 HP HB1
  go_wp2_with fail
  go_loopw [3, 4, 11] (fun v3 v4 v13 wr => ∃ i : Nat, v13 = .int .i64 i ∧ i ≤ n ∧ RowB wr base v3 (netsF (putF (n : Int) 1 :: (l.take i).flatMap Msg.blobR)) ∧ Below base w wr) (fun _ _ v13 _ => n - (intOf v13).toNat)
  case atStart => exact ⟨0, by go_num, by omega, HO3.out, HB3.out⟩
  case round =>
    obtain ⟨i, rfl, hin, ho, hb⟩ := hrel
    rename World => ws
    clear HO3 HB3
    have HO := hide ho
    have HB := hide hb
    have hbs : base ≤ ws.heap.size := by have h1 := hb.size; have h2 := HBS.out; omega
    clear ho hb
    by_cases hlt : i < n
    · have hlt' : (i : Int) < (n : Int) := by omega
      have hil : i < l.length := by rw [HN.out]; exact hlt
      obtain ⟨bb, oo, rfl, hbb, hcc⟩ := H3.out (by omega)
      obtain ⟨hc1, u, hc2, hu⟩ := hcc i hil
      have HX1 := hide (blob_snoc l n i hil)
      have HYB := hide (HBY.out _ (List.getElem_mem hil))
      have HXI := hide (HIN.out _ (List.getElem_mem hil))
      obtain ⟨xx, HXX⟩ : ∃ x, Hid (l[i] = x) := ⟨_, hide rfl⟩
      rw [HXX.out] at hc1 hu HX1 HYB HXI
      obtain ⟨X, x2⟩ := xx
      simp only at hc1 hu HX1 HYB HXI
      obtain ⟨Au, cu, rfl, _, _, _⟩ := hu.open_
      have HC1 := hide hc1
      have HC2 := hide hc2
      have HU0 := hide ((hu.below HB.out (Nat.le_refl _)).more hbs)
      obtain ⟨u, HUV⟩ : ∃ u, Hid (Value.slice Au x2.length cu = u) := ⟨_, hide rfl⟩
      have HUC := hide (show u.cells = #[u] by rw [← HUV.out]; rfl)
      have HU1 := hide (show u.oneCell' = true by rw [← HUV.out]; rfl)
      rw [HUV.out] at HC2 HU0
      have HOL := hide (show (netsF (putF (n : Int) 1 :: (l.take i).flatMap Msg.blobR)).length ≤ 140737488355328 - 3000063 from by
        have hall : ∀ y ∈ putF (n : Int) 1 :: (l.take i).flatMap Msg.blobR, y.length ≤ 1000000 := fun y hy => by
          rcases List.mem_cons.1 hy with rfl | hy
          · have := HP1.out (n : Int); omega
          · obtain ⟨z, hz, hy⟩ := List.mem_flatMap.1 hy
            simp only [Msg.blobR, List.mem_cons, List.not_mem_nil, or_false] at hy
            rcases hy with rfl | rfl
            · have := HP1.out z.1; omega
            · exact (HBY.out z (List.mem_of_mem_take hz)).2
        have h1 := netsF_len _ hall _ (Nat.le_refl _)
        rw [List.take_length] at h1
        have h2 : (putF (n : Int) 1 :: (l.take i).flatMap Msg.blobR).length ≤ 2001 := by rw [List.length_cons, Msg.blobR_len, List.length_take]; omega
        have h3 := Nat.mul_le_mul_right 1000021 h2
        omega)
      have HRB := hide (show ∀ y ∈ [putF X 1, x2], Bytes y from fun y hy => by
        simp only [List.mem_cons, List.not_mem_nil, or_false] at hy
        rcases hy with rfl | rfl
        · exact putF_bytes _ _
        · exact HYB.out.1)
      have HRL := hide (show ∀ y ∈ [putF X 1, x2], y.length ≤ 1000000 from fun y hy => by
        simp only [List.mem_cons, List.not_mem_nil, or_false] at hy
        rcases hy with rfl | rfl
        · have := HP1.out X; omega
        · exact HYB.out.2)
      have HNL := hide (show (netsF [putF X 1, x2]).length ≤ 3000063 from by
        have h1 := netsF_len _ HRL.out _ (Nat.le_refl _)
        rw [List.take_length] at h1
        have h2 : [putF X 1, x2].length = 2 := rfl
        rw [h2] at h1
        omega)
      have hbs0 : base ≤ w.heap.size := by have := HBS.out; omega
      go_upto_region 5 with fail
      generalize HVV : u3 = V at HO ⊢
      clear HVV
      refine wp_region_held_drew (S := fun w' => Below base w w') (by kernel_rfl) HB.out.drew (fun hHeld => ?_)
      replace HO := hide (HO.out.keptB (Below.refl _ _).drew)
      have HU := hide ((HU0.out.below ((Below.refl _ _).drew) (Nat.le_refl _)))
      refine take_d 14 (i := 0) (v := V) rfl (by kernel_rfl) (by kernel_rfl) (by kernel_rfl) (by kernel_rfl) (fun _ _ _ h => h) (Or.inl ⟨by kernel_rfl, fun w' hS => exec_move _ rfl _ rfl⟩) hHeld ?_
      try simp only [Act.put, List.setIfInBounds_toArray, List.set_cons_zero, List.set_cons_succ]
      refine take_d 15 (i := 1) (v := .slice (some ⟨bb, oo, none⟩) n c) rfl (by kernel_rfl) (by kernel_rfl) (by kernel_rfl) (by kernel_rfl) (fun _ _ _ h => h) (Or.inl ⟨by kernel_rfl, fun w' hS => exec_move _ rfl _ rfl⟩) hHeld ?_
      try simp only [Act.put, List.setIfInBounds_toArray, List.set_cons_zero, List.set_cons_succ]
      refine take_d 16 (i := 2) (v := .int .i64 (i : Int)) rfl (by kernel_rfl) (by kernel_rfl) (by kernel_rfl) (by kernel_rfl) (fun _ _ _ h => h) (Or.inl ⟨by kernel_rfl, fun w' hS => exec_move _ rfl _ rfl⟩) hHeld ?_
      try simp only [Act.put, List.setIfInBounds_toArray, List.set_cons_zero, List.set_cons_succ]
      refine take_d 17 (i := 3) (v := .pointer (some ⟨bb, oo + i * 2, none⟩)) rfl (by kernel_rfl) (by kernel_rfl) (by kernel_rfl) (by kernel_rfl) (fun _ _ _ h => h) (Or.inl ⟨by kernel_rfl, fun w' hS => exec_index_blob _ _ rfl _ n c bb oo i rfl rfl rfl hlt⟩) hHeld ?_
      try simp only [Act.put, List.setIfInBounds_toArray, List.set_cons_zero, List.set_cons_succ]
      refine take_d 18 (i := 4) (v := .pointer (some ⟨bb, oo + i * 2, none⟩)) rfl (by kernel_rfl) (by kernel_rfl) (by kernel_rfl) (by kernel_rfl) (fun _ _ _ h => h) (Or.inl ⟨by kernel_rfl, fun w' hS => exec_field_blobat _ 0 0 rfl bb _ rfl rfl⟩) hHeld ?_
      try simp only [Act.put, List.setIfInBounds_toArray, List.set_cons_zero, List.set_cons_succ]
      refine take_d 19 (i := 5) (v := .int .i64 X) rfl (by kernel_rfl) (by kernel_rfl) (by kernel_rfl) (by kernel_rfl) (fun _ _ _ h => h) (Or.inl ⟨by kernel_rfl, fun w' hS => exec_load_one _ _ rfl bb (oo + i * 2) rfl _ Tryd.underlying3 rfl _ ((hS.cell (p := ⟨bb, oo + i * 2, none⟩) hbb).trans HC1.out)⟩) hHeld ?_
      try simp only [Act.put, List.setIfInBounds_toArray, List.set_cons_zero, List.set_cons_succ]
      refine take_d 21 (i := 7) (v := .slice (some ⟨bb, oo, none⟩) n c) rfl (by kernel_rfl) (by kernel_rfl) (by kernel_rfl) (by kernel_rfl) (fun _ _ _ h => h) (Or.inl ⟨by kernel_rfl, fun w' hS => exec_move _ rfl _ rfl⟩) hHeld ?_
      try simp only [Act.put, List.setIfInBounds_toArray, List.set_cons_zero, List.set_cons_succ]
      refine take_d 22 (i := 8) (v := .int .i64 (i : Int)) rfl (by kernel_rfl) (by kernel_rfl) (by kernel_rfl) (by kernel_rfl) (fun _ _ _ h => h) (Or.inl ⟨by kernel_rfl, fun w' hS => exec_move _ rfl _ rfl⟩) hHeld ?_
      try simp only [Act.put, List.setIfInBounds_toArray, List.set_cons_zero, List.set_cons_succ]
      refine take_d 23 (i := 9) (v := .pointer (some ⟨bb, oo + i * 2, none⟩)) rfl (by kernel_rfl) (by kernel_rfl) (by kernel_rfl) (by kernel_rfl) (fun _ _ _ h => h) (Or.inl ⟨by kernel_rfl, fun w' hS => exec_index_blob _ _ rfl _ n c bb oo i rfl rfl rfl hlt⟩) hHeld ?_
      try simp only [Act.put, List.setIfInBounds_toArray, List.set_cons_zero, List.set_cons_succ]
      refine take_d 24 (i := 10) (v := .pointer (some ⟨bb, oo + i * 2 + 1, none⟩)) rfl (by kernel_rfl) (by kernel_rfl) (by kernel_rfl) (by kernel_rfl) (fun _ _ _ h => h) (Or.inl ⟨by kernel_rfl, fun w' hS => exec_field_blobat _ 1 1 rfl bb _ rfl rfl⟩) hHeld ?_
      try simp only [Act.put, List.setIfInBounds_toArray, List.set_cons_zero, List.set_cons_succ]
      refine take_d 25 (i := 11) (v := u) rfl (by kernel_rfl) (by kernel_rfl) (by kernel_rfl) (by kernel_rfl) (fun _ _ _ h => h) (Or.inl ⟨by kernel_rfl, fun w' hS => exec_load_one _ _ rfl bb (oo + i * 2 + 1) rfl _ Tryd.underlying26 rfl _ ((hS.cell (p := ⟨bb, oo + i * 2 + 1, none⟩) hbb).trans HC2.out)⟩) hHeld ?_
      try simp only [Act.put, List.setIfInBounds_toArray, List.set_cons_zero, List.set_cons_succ]
      refine wpAnyH_ready (rs := [6]) (by kernel_rfl) (by simp) (AllReadyH.cons rfl (fun K hK => ?_) AllReadyH.nil)
      rw [if_pos (by kernel_rfl)]
      try go_simp
      refine (Put_ref X 1 _ HXI.out (by omega)).mono ?_
      rintro e wp ⟨v1, rfl, ho1, hb1⟩
      replace HO := hide (HO.out.keptB hb1)
      have HX := hide (show Below base w _ from hHeld.trans (hb1.mono (Nat.le_trans hbs0 hHeld.size)))
      replace HU := hide ((HU.out.below hb1 (Nat.le_refl _)).more hb1.size)
      have HP := hide ho1
      clear ho1 hb1
      refine hK.out _ _ HX.out (fun hHeld => ?_)
      clear HX hK K
      try simp only [Act.put, List.setIfInBounds_toArray, List.set_cons_zero, List.set_cons_succ]
      refine wpAnyH_ready (rs := [12]) (by kernel_rfl) (by simp) (AllReadyH.cons rfl (fun K hK => ?_) AllReadyH.nil)
      rw [if_pos (by kernel_rfl)]
      refine wp_rows2D 26 rfl _ _ rfl v1 u rfl rfl HP.out.cells1 HUC.out ?_
      intro wl hbl hbb2
      replace HP := hide (HP.out.keptB hbb2)
      replace HO := hide (HO.out.keptB hbb2)
      have HX := hide (show Below base w _ from hHeld.trans (hbb2.mono (Nat.le_trans hbs0 hHeld.size)))
      replace HU := hide ((HU.out.below hbb2 (Nat.le_refl _)).more hbb2.size)
      have HR := hide (rows_two hbl HP.out.reads HU.out)
      clear hbl hbb2
      refine hK.out _ _ HX.out (fun hHeld => ?_)
      clear HX hK K
      try simp only [Act.put, List.setIfInBounds_toArray, List.set_cons_zero, List.set_cons_succ]
      refine wpAnyH_ready (rs := [13]) (by kernel_rfl) (by simp) (AllReadyH.cons rfl (fun K hK => ?_) AllReadyH.nil)
      rw [if_pos (by kernel_rfl)]
      try go_simp
      refine (Nets_ref _ [putF X 1, x2] _ HR.out HRB.out HRL.out (by simp)).mono ?_
      rintro e wn ⟨v24, rfl, ho2, hb2⟩
      replace HO := hide (HO.out.keptB hb2)
      have HX := hide (show Below base w _ from hHeld.trans (hb2.mono (Nat.le_trans hbs0 hHeld.size)))
      replace HU := hide ((HU.out.below hb2 (Nat.le_refl _)).more hb2.size)
      have HN2 := hide ho2
      clear ho2 hb2
      refine hK.out _ _ HX.out (fun hHeld => ?_)
      clear HX hK K
      try simp only [Act.put, List.setIfInBounds_toArray, List.set_cons_zero, List.set_cons_succ]
      refine wpAnyH_ready (rs := [14]) (by kernel_rfl) (by simp) (AllReadyH.cons rfl (fun K hK => ?_) AllReadyH.nil)
      rw [if_pos (by kernel_rfl)]
      refine wp_append_BD 28 rfl _ _ rfl base V _ rfl HO.out _ v24 (netsF [putF X 1, x2]) rfl HN2.out.reads HN2.out.bytes (by have h1 := HOL.out; have h2 := HNL.out; omega) (Nat.le_trans hbs0 hHeld.size) ?_
      intro v25 w25 ho25 hg25
      have HX := hide (show Below base w w25 from hHeld.grown hg25 (Nat.le_trans hbs0 hHeld.size) (fun k hk => (HO.out.base_ k hk).1))
      have HO2 := hide ho25
      clear ho25 hg25
      refine hK.out _ _ HX.out (fun hHeld => ?_)
      clear HX hK K
      try simp only [Act.put, List.setIfInBounds_toArray, List.set_cons_zero, List.set_cons_succ]
      refine take_d 3 (i := 15) (v := v25) rfl (by kernel_rfl) (by kernel_rfl) (by kernel_rfl) (by kernel_rfl) (fun _ _ _ h => h) (Or.inl ⟨by kernel_rfl, fun w' hS => exec_assign _ rfl _ rfl⟩) hHeld ?_
      try simp only [Act.put, List.setIfInBounds_toArray, List.set_cons_zero, List.set_cons_succ]
      refine wpAnyH_done (by kernel_rfl) ?_ _
      go_wp2_with fail
      go_roundw
      case measure => simp [intOf]; omega
      case rel => exact ⟨i + 1, by go_num, by omega, by rw [← HX1.out]; exact HO2.out, hHeld⟩
    · obtain rfl : i = n := by omega
      have hlt' : ¬ (i : Int) < (i : Int) := by omega
      have HE := hide (show l.take i = l from List.take_of_length_le (by rw [HN.out]; omega))
      rw [HE.out] at HO
      go_wp2_with fail
      go_ret
      exact ⟨_, rfl, HO.out, HB.out⟩
end Go.Proofs.YtfinfkodjkfibaaDoor
