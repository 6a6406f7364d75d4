/- code.Nets: rows with their lengths, one behind the other. Condition: at most a million rows of at most a million bytes.
The reference's digits of a number: it calls itself.
The plain law of capabilities: which may be, their texts, the text's parts, and that a text is just one capability's. No program in sight. Condition: a key of 16 bytes, a print of 32. -/
import Derived.Test.YthdjgebbjogmiaaDoorJoin4
import Derived.Test.YthdjgebbjogmiaaDoorJoin3
import Derived.Deep.RegionHeld3
import Derived.LoopIn
import Derived.Deep.DeepCutAuto
import Derived.Test.YthdjgebbjogmiaaDoorJoin2
set_option linter.unusedVariables false
set_option linter.unusedSimpArgs false
namespace Go.Proofs.YthdjgebbjogmiaaDoor
open Go Go.RowKit
set_option maxRecDepth 100000

theorem netF_len (x : List Int) (h : x.length ≤ 1000000) : (netF x).length ≤ 1000021 := by
 have := digits_bound x.length (by omega)
 rw [netF]; simp; omega
theorem netsF_take (l : List (List Int)) (i : Nat) (h : i < l.length) : netsF (l.take (i + 1)) = netsF (l.take i) ++ netF l[i] := by
 unfold netsF
 rw [List.take_succ_eq_append_getElem h, List.map_append, List.flatten_append]
 simp
theorem netsF_len (l : List (List Int)) (h : ∀ x ∈ l, x.length ≤ 1000000) : ∀ i, i ≤ l.length → (netsF (l.take i)).length ≤ i * 1000021
 | 0, _ => by simp [netsF]
 | i + 1, hi => by
  rw [netsF_take l i (by omega), List.length_append]
  have h1 := netsF_len l h i (by omega)
  have h2 := netF_len l[i] (h _ (List.getElem_mem _))
  omega
theorem netsF_bytes (l : List (List Int)) (h : ∀ x ∈ l, Bytes x) : Bytes (netsF l) := fun x hx => by
 unfold netsF at hx
 obtain ⟨y, hy, hx⟩ := List.mem_flatten.1 hx
 obtain ⟨z, hz, rfl⟩ := List.mem_map.1 hy
 exact netF_bytes (h z hz) x hx

set_option maxHeartbeats 1000000 in
theorem Nets_any (v : Value) (rows : List (List Int)) (w : World) (hv : RowsB w w.heap.size v rows) (hb : ∀ x ∈ rows, Bytes x) (hl : ∀ x ∈ rows, x.length ≤ 1000000) (hn : rows.length ≤ 1000000) (ht : Tab w w.heap.size) :
 Calls Tryd.prog 62 #[v] w fun e w' => ∃ v', e = .returned v' ∧ RowB w' w.heap.size v' (netsF rows) ∧ Below w.heap.size w w' := by
 have HV := hide hv
 have HBX := hide hb
 have HLX := hide hl
 have HT := hide ht
 obtain ⟨A, c, rfl, h1, h2, h3⟩ := hv.open_
 unfold maxLen at h2
 obtain ⟨n, HN⟩ : ∃ n, Hid (rows.length = n) := ⟨_, hide rfl⟩
 rw [HN.out] at h1 hn
 have HVV := hide (fun (w' : World) (hb : Below w.heap.size w w') => (hv.below hb (Nat.le_refl _)).open_)
 rw [HN.out]
 clear hv hb hl h3 ht
 go_enter Tryd.func62, Tryd.ntmps62
 go_wp2_with fail
 go_loopw [3, 8] (fun v3 v8 wr => ∃ i : Nat, i ≤ n ∧ v8 = .int .i64 i ∧ RowB wr w.heap.size v3 (netsF (rows.take i)) ∧ Below w.heap.size w wr) (fun _ v8 _ => n - (intOf v8).toNat)
 case atStart => exact ⟨0, by omega, rfl, RowB.nil_ _ _, Below.refl _ _⟩
 case round =>
  obtain ⟨i, hi, rfl, ho, hbel⟩ := hrel
  have HO := hide ho
  have HB := hide hbel
  have hwz := hbel.size
  clear ho hbel
  by_cases hit : i < n
  · obtain ⟨A', c', e', _, _, h3⟩ := HVV.out wr HB.out
    injection e' with e1 e2 e3
    rw [← e1] at h3
    clear e1 e2 e3
    obtain ⟨b, o, rfl, hbb, hc⟩ := h3 (by rw [HN.out]; omega)
    obtain ⟨u, hu, hbu⟩ := hc i (by rw [HN.out]; exact hit)
    have hil : i < rows.length := by rw [HN.out]; exact hit
    have HBR := hide (HBX.out _ (List.getElem_mem hil))
    have HLR := hide (HLX.out _ (List.getElem_mem hil))
    have HNT := hide (netsF_take rows i hil)
    have HLN := hide (netsF_len rows HLX.out i (by omega))
    obtain ⟨r, HR⟩ : ∃ r, Hid (rows[i] = r) := ⟨_, hide rfl⟩
    rw [HR.out] at HBR HLR HNT hbu
    have HBU := hide hbu
    have HNB := hide (netF_bytes HBR.out)
    have HNL := hide (netF_len r HLR.out)
    have i0 : (0 : Int) ≤ (i : Int) := by omega
    have i1 : (i : Int) < (n : Int) := by omega
    have HCALL := hide (Net_any u r wr (HBU.out.more hwz) HBR.out (by have := HLR.out; omega) ((HT.out.below HB.out (Nat.le_refl _)).more hwz))
    clear hc hbu h3
    go_wp2_with fail
    refine HCALL.out.mono ?_
    rintro e w2 ⟨v14, rfl, ho14, hb2⟩
    have HO14 := hide ho14
    have HO' := hide (HO.out.keptB hb2)
    have HB2 := hide (HB.out.trans (hb2.mono hwz))
    have hz2 := hb2.size
    clear ho14 hb2 HO HB HCALL
    go_wp2_with (at_builtin; go_must (refine wpList_append_B rfl _ _ rfl w.heap.size _ _ rfl HO'.out _ _ (netF r) rfl HO14.out.reads HNB.out (by have := HNL.out; have := HLN.out; omega) (by omega) ?_); intro v15 w3 ho15 hg15; have HB3 := hide (HB2.out.grown hg15 (by omega) (fun k hk => (HO'.out.base_ k hk).1)); rw [← HNT.out] at ho15; have HO15 := hide ho15; clear ho15 hg15)
    go_roundw
    case measure => simp [intOf]; omega
    case rel => exact ⟨i + 1, by omega, by go_num, HO15.out, HB3.out⟩
  · have e : i = n := by omega
    subst e
    have i1 : ¬ (i : Int) < (i : Int) := by omega
    have HF := hide (show rows.take i = rows from List.take_of_length_le (by rw [HN.out]; exact Nat.le_refl _))
    rw [HF.out] at HO
    go_wp2_with fail
    go_ret
    exact ⟨_, rfl, HO.out, HB.out⟩
end Go.Proofs.YthdjgebbjogmiaaDoor

namespace Go.Proofs.YthdjgebbjogmiaaDoor
open Go Go.RowKit
set_option maxRecDepth 100000
set_option linter.unusedVariables false

theorem strB_app (a b : ByteArray) : strB (a ++ b) = strB a ++ strB b := by
 unfold strB
 rw [ByteArray.data_append, Array.toList_append, List.map_append]

theorem wp_lit1 {o : Oper} {a : Act} {w : World} {K : Act → World → Prop} {Q : Exit → Act → World → Prop} (x : Operand) (ho : o.op = .buildSlice 26 1 #[(0, x)]) (z : Int) (hx : a.eval x = .int .u8 z)
 (h : ∀ g w', Blk w' g 5 (u8s [z]) → w.heap.size ≤ g → Below w.heap.size w w' → K (a.put o.dst (.slice (some ⟨g, 0, none⟩) 1 1)) w') : o.wp Tryd.prog a w K Q := by
 obtain ⟨i, zz, ht, hi, hz, hsize, hby, hzs, _, _⟩ := el_u8
 have hz0 := u8_zero hi hz
 subst hz0
 refine wp_buildSlice 26 5 1 _ ho #[.int .u8 z] i (.int .u8 0) ht hi hz (by rw [hsize]; omega) (by rw [hsize]; omega) ?_ (h _ _ (Blk.new w 5 (u8s [z])) (Nat.le_refl _) ((Below.refl _ _).alloc (Nat.le_refl _) _))
 have e : (#[(0, x)].map fun (p : Nat × Operand) => (p.1, a.eval p.2)).toList = ([Value.int IntKind.u8 z].zipIdx 0).map fun x => (x.2, x.1) := by simp [hx]
 rw [e, hsize]
 exact Great.fill_flat _ _ (fun v hv => by simp at hv; subst hv; rfl) (by simp)

theorem wp_lit1D {o : Oper} {a : Act} {w : World} {K : Act → World → Prop} {Q : Exit → Act → World → Prop} (x : Operand) (ho : o.op = .buildSlice 26 1 #[(0, x)]) (d : Nat) (hd : o.dst = some d) (z : Int) (hx : a.eval x = .int .u8 z)
 (h : ∀ g w', Blk w' g 5 (u8s [z]) → w.heap.size ≤ g → Below w.heap.size w w' → K (a.put (some d) (.slice (some ⟨g, 0, none⟩) 1 1)) w') : o.wp Tryd.prog a w K Q :=
 wp_lit1 x ho z hx fun g w' h1 h2 h3 => by rw [hd]; exact h g w' h1 h2 h3
theorem wp_convertD {P : Program} {o : Oper} {a : Act} {w w' : World} {K : Act → World → Prop} {Q : Exit → Act → World → Prop} (src dst : TypeId) (x : Operand) (ho : o.op = .convert src dst x) (d : Nat) (hd : o.dst = some d) (v u : Value) (hx : a.eval x = v)
 (hrun : (convert src dst v).run P w = .ok u w') (h : K (a.put (some d) u) w') : o.wp P a w K Q :=
 wp_convert src dst x v u ho hx hrun (by rw [hd]; exact h)

theorem digB_one {n : Nat} (h : n < 10) : digB n = [48 + (n : Int)] := by
 rw [digB, Lib.decDigits_one h]
 simp [UInt8.toNat_ofNat']
 omega
theorem digB_more {n : Nat} (h : ¬ n < 10) : digB n = digB (n / 10) ++ [48 + ((n % 10 : Nat) : Int)] := by
 rw [digB, Lib.decDigits, dif_neg h, List.map_append]
 unfold digB
 congr 1
 simp [UInt8.toNat_ofNat']
 omega

set_option maxRecDepth 100000 in
set_option maxHeartbeats 4000000 in
theorem Digits_ref : ∀ (n : Nat) (hn : n ≤ 9223372036854775807) (w : World),
 Calls Tryd.prog 65 #[.int .i64 (n : Int)] w fun e w' => ∃ s, e = .returned (.string s) ∧ strB s = digB n ∧ Below w.heap.size w w' := by
 intro n
 induction n using Nat.strongRecOn with
 | ind n ih =>
  intro hn w
  by_cases h10 : n < 10
  · have HD1 := hide (show Bytes [48 + (n : Int)] from fun x hx => by simp at hx; omega)
    have HDG := hide (digB_one h10)
    have i1 : (n : Int) < 10 := by omega
    have hw1 : IntKind.u8.wrap (48 + (n : Int)) = 48 + (n : Int) := by simp [IntKind.wrap, IntKind.bits, IntKind.signed]; omega
    have hw0 : IntKind.i64.wrap (48 + (n : Int)) = 48 + (n : Int) := by simp [IntKind.wrap, IntKind.bits, IntKind.signed]; omega
    obtain ⟨T, HT⟩ : ∃ t, Hid (strOfNums [48 + (n : Int)] = t) := ⟨_, hide rfl⟩
    have HTB := hide (show strB T = digB n by rw [← HT.out, strB_of HD1.out, HDG.out])
    clear ih
    go_enter Tryd.func65, Tryd.ntmps65
    go_wp2_with (first
     | (refine wpList_lit1v rfl _ rfl _ rfl (48 + (n : Int)) (by simp [hw1, hw0]) ?_; intro g1 w1 bk1 hg1 hb1; have BK := hide bk1; have HB := hide hb1; clear bk1 hg1 hb1)
     | (refine wpList_to_string rfl _ rfl _ _ [48 + (n : Int)] rfl ((RowB.of_blk (base := 0) BK.out (by omega) HD1.out (by simp [maxLen])).reads) ?_))
    go_ret
    exact ⟨_, rfl, by rw [HT.out]; exact HTB.out, HB.out⟩
  · have HDG := hide (digB_more h10)
    have IH := hide (ih (n / 10) (by omega) (by omega))
    have i1 : ¬ (n : Int) < 10 := by omega
    obtain ⟨q, HQ⟩ : ∃ q, Hid (n / 10 = q) := ⟨_, hide rfl⟩
    obtain ⟨d', HD'⟩ : ∃ d, Hid (n % 10 = d) := ⟨_, hide rfl⟩
    have hd' : d' < 10 := by rw [← HD'.out]; omega
    obtain ⟨d, hd⟩ : ∃ d : Int, d = (d' : Int) := ⟨_, rfl⟩
    have HDIG := hide (show digB q ++ [48 + d] = digB n by rw [HDG.out, HQ.out, HD'.out, hd])
    have HD1 := hide (show Bytes [48 + d] from fun x hx => by simp at hx; omega)
    have e1 : IntKind.i64.wrap ((n : Int).tdiv 10) = (q : Int) := by
     rw [← HQ.out, Int.tdiv_eq_ediv_of_nonneg (by omega)]; simp [IntKind.wrap, IntKind.bits, IntKind.signed]; omega
    have e2 : IntKind.i64.wrap ((n : Int).tmod 10) = d := by
     rw [hd, ← HD'.out, Int.tmod_eq_emod_of_nonneg (by omega)]; simp [IntKind.wrap, IntKind.bits, IntKind.signed]; omega
    have e1' : IntKind.i64.wrap ((n : Int) / 10) = (q : Int) := by rw [← Int.tdiv_eq_ediv_of_nonneg (by omega)]; exact e1
    have e2' : (n : Int).tmod 10 = d := by rw [hd, ← HD'.out, Int.tmod_eq_emod_of_nonneg (by omega)]; omega
    have e3 : IntKind.i64.wrap (48 + d) = 48 + d := by simp [IntKind.wrap, IntKind.bits, IntKind.signed]; omega
    have e4 : IntKind.u8.wrap (48 + d) = 48 + d := by simp [IntKind.wrap, IntKind.bits, IntKind.signed]; omega
    obtain ⟨T, HT⟩ : ∃ t, Hid (strOfNums [48 + d] = t) := ⟨_, hide rfl⟩
    have HTB := hide (show strB T = [48 + d] by rw [← HT.out, strB_of HD1.out])
    have HTL := hide (show T.size ≤ 1 by rw [← HT.out, strOfNums_size]; simp)
    have HQL := hide (digits_bound q (by have := HQ.out; omega))
    rw [HQ.out] at IH
    clear ih HDG hd HD' HQ
    have HB := hide (Below.refl w.heap.size w)
    go_enter Tryd.func65, Tryd.ntmps65
    go_upto_region 3 with fail

    refine wp_region_held_drew (S := fun w' => Below w.heap.size w w') (by kernel_rfl) (Below.refl _ _).drew (fun hHeld => ?_)
    refine take_e 10 (i := 0) (v := .int .i64 n) rfl (by kernel_rfl) (Or.inl ⟨by kernel_rfl, fun w' hS => by go_simp⟩) hHeld ?_
    simp only [Act.put, s1_, s2_, s3_]
    refine take_e 11 (i := 1) (v := .int .i64 q) rfl (by kernel_rfl) (Or.inl ⟨by kernel_rfl, fun w' hS => by go_simp⟩) hHeld ?_
    simp only [Act.put, s1_, s2_, s3_]
    refine take_e 13 (i := 3) (v := .int .i64 n) rfl (by kernel_rfl) (Or.inl ⟨by kernel_rfl, fun w' hS => by go_simp⟩) hHeld ?_
    simp only [Act.put, s1_, s2_, s3_]
    refine take_e 14 (i := 4) (v := .int .i64 d) rfl (by kernel_rfl) (Or.inl ⟨by kernel_rfl, fun w' hS => by go_simp⟩) hHeld ?_
    simp only [Act.put, s1_, s2_, s3_]
    refine take_e 15 (i := 5) (v := .int .i64 (48 + d)) rfl (by kernel_rfl) (Or.inl ⟨by kernel_rfl, fun w' hS => by go_simp⟩) hHeld ?_
    simp only [Act.put, s1_, s2_, s3_]
    refine take_e 16 (i := 6) (v := .int .u8 (48 + d)) rfl (by kernel_rfl) (Or.inl ⟨by kernel_rfl, fun w' hS => by go_simp⟩) hHeld ?_
    simp only [Act.put, s1_, s2_, s3_]
    refine wpAnyH_ready (rs := [2, 7]) (by kernel_rfl) (by simp) (AllReadyH.cons rfl (fun K hK => ?c1) (AllReadyH.cons rfl (fun K hK => ?b1) AllReadyH.nil))
    case c1 =>
     rw [if_pos (by kernel_rfl)]
     try go_simp
     refine (IH.out _).mono ?_
     rintro e wc1 ⟨s, rfl, hs, hb1⟩
     have HS := hide hs
     have hsT : s.size + T.size ≤ 9223372036854775807 := by have h1 := strB_len s; rw [hs] at h1; have := HQL.out; have := HTL.out; omega
     refine hK.out _ _ (hHeld.trans (hb1.mono hHeld.size)) (fun hHeld => ?_)
     clear hb1 hs
     clear hK K
     try simp only [Act.put, s1_, s2_, s3_]
     refine wpAnyH_ready (rs := [7]) (by kernel_rfl) (by simp) (AllReadyH.cons rfl (fun K hK => ?_) AllReadyH.nil)
     rw [if_pos (by kernel_rfl)]
     refine wp_lit1D (.tmp 16) (by kernel_rfl) 17 (by kernel_rfl) (48 + d) (by kernel_rfl) ?_
     intro g wb1 bk1 hg1 hb1
     have hge := hHeld.size
     have BK := hide bk1
     refine hK.out _ _ (hHeld.trans (hb1.mono hHeld.size)) (fun hHeld => ?_)
     clear hb1 bk1
     clear hK K
     try simp only [Act.put, s1_, s2_, s3_]
     refine wpAnyH_ready (rs := [8]) (by kernel_rfl) (by simp) (AllReadyH.cons rfl (fun K hK => ?_) AllReadyH.nil)
     rw [if_pos (by kernel_rfl)]
     refine wp_convertD 26 9 (.tmp 17) (by kernel_rfl) 18 (by kernel_rfl) _ (.string T) rfl (by rw [← HT.out]; exact run_to_string _ _ _ [48 + d] ((RowB.of_blk (base := 0) BK.out (by omega) HD1.out (by simp [maxLen])).reads)) ?_
     refine hK.out _ _ hHeld (fun hHeld => ?_)
     clear hK K
     try simp only [Act.put, s1_, s2_, s3_]
     refine take_e 19 (i := 9) (v := .string (s ++ T)) rfl (by kernel_rfl) (Or.inl ⟨by kernel_rfl, fun w' hS => by go_simp⟩) hHeld ?_
     simp only [Act.put, s1_, s2_, s3_]
     refine take_e 2 (i := 10) (v := .string (s ++ T)) rfl (by kernel_rfl) (Or.inl ⟨by kernel_rfl, fun w' hS => by go_simp⟩) hHeld ?_
     simp only [Act.put, s1_, s2_, s3_]
     refine wpAnyH_done (by kernel_rfl) ?_ _
     have HBz := hide (HB.out.trans (hHeld.mono (by omega)))
     go_wp2_with fail
     go_ret
     exact ⟨_, rfl, by rw [strB_app, HS.out, HTB.out]; exact HDIG.out, HBz.out⟩
    case b1 =>
     rw [if_pos (by kernel_rfl)]
     refine wp_lit1D (.tmp 16) (by kernel_rfl) 17 (by kernel_rfl) (48 + d) (by kernel_rfl) ?_
     intro g wb1 bk1 hg1 hb1
     have hge := hHeld.size
     have BK := hide bk1
     refine hK.out _ _ (hHeld.trans (hb1.mono hHeld.size)) (fun hHeld => ?_)
     clear hb1 bk1
     clear hK K
     try simp only [Act.put, s1_, s2_, s3_]
     refine wpAnyH_ready (rs := [2, 8]) (by kernel_rfl) (by simp) (AllReadyH.cons rfl (fun K hK => ?c2) (AllReadyH.cons rfl (fun K hK => ?v2) AllReadyH.nil))
     case c2 =>
      rw [if_pos (by kernel_rfl)]
      try go_simp
      refine (IH.out _).mono ?_
      rintro e wc1 ⟨s, rfl, hs, hb1⟩
      have HS := hide hs
      have hsT : s.size + T.size ≤ 9223372036854775807 := by have h1 := strB_len s; rw [hs] at h1; have := HQL.out; have := HTL.out; omega
      replace BK := hide (BK.out.below hb1 BK.out.lt)
      refine hK.out _ _ (hHeld.trans (hb1.mono hHeld.size)) (fun hHeld => ?_)
      clear hb1 hs
      clear hK K
      try simp only [Act.put, s1_, s2_, s3_]
      refine wpAnyH_ready (rs := [8]) (by kernel_rfl) (by simp) (AllReadyH.cons rfl (fun K hK => ?_) AllReadyH.nil)
      rw [if_pos (by kernel_rfl)]
      refine wp_convertD 26 9 (.tmp 17) (by kernel_rfl) 18 (by kernel_rfl) _ (.string T) rfl (by rw [← HT.out]; exact run_to_string _ _ _ [48 + d] ((RowB.of_blk (base := 0) BK.out (by omega) HD1.out (by simp [maxLen])).reads)) ?_
      refine hK.out _ _ hHeld (fun hHeld => ?_)
      clear hK K
      try simp only [Act.put, s1_, s2_, s3_]
      refine take_e 19 (i := 9) (v := .string (s ++ T)) rfl (by kernel_rfl) (Or.inl ⟨by kernel_rfl, fun w' hS => by go_simp⟩) hHeld ?_
      simp only [Act.put, s1_, s2_, s3_]
      refine take_e 2 (i := 10) (v := .string (s ++ T)) rfl (by kernel_rfl) (Or.inl ⟨by kernel_rfl, fun w' hS => by go_simp⟩) hHeld ?_
      simp only [Act.put, s1_, s2_, s3_]
      refine wpAnyH_done (by kernel_rfl) ?_ _
      have HBz := hide (HB.out.trans (hHeld.mono (by omega)))
      go_wp2_with fail
      go_ret
      exact ⟨_, rfl, by rw [strB_app, HS.out, HTB.out]; exact HDIG.out, HBz.out⟩
     case v2 =>
      rw [if_pos (by kernel_rfl)]
      refine wp_convertD 26 9 (.tmp 17) (by kernel_rfl) 18 (by kernel_rfl) _ (.string T) rfl (by rw [← HT.out]; exact run_to_string _ _ _ [48 + d] ((RowB.of_blk (base := 0) BK.out (by omega) HD1.out (by simp [maxLen])).reads)) ?_
      refine hK.out _ _ hHeld (fun hHeld => ?_)
      clear hK K
      try simp only [Act.put, s1_, s2_, s3_]
      refine wpAnyH_ready (rs := [2]) (by kernel_rfl) (by simp) (AllReadyH.cons rfl (fun K hK => ?_) AllReadyH.nil)
      rw [if_pos (by kernel_rfl)]
      try go_simp
      refine (IH.out _).mono ?_
      rintro e wc1 ⟨s, rfl, hs, hb1⟩
      have HS := hide hs
      have hsT : s.size + T.size ≤ 9223372036854775807 := by have h1 := strB_len s; rw [hs] at h1; have := HQL.out; have := HTL.out; omega
      refine hK.out _ _ (hHeld.trans (hb1.mono hHeld.size)) (fun hHeld => ?_)
      clear hb1 hs
      clear hK K
      try simp only [Act.put, s1_, s2_, s3_]
      refine take_e 19 (i := 9) (v := .string (s ++ T)) rfl (by kernel_rfl) (Or.inl ⟨by kernel_rfl, fun w' hS => by go_simp⟩) hHeld ?_
      simp only [Act.put, s1_, s2_, s3_]
      refine take_e 2 (i := 10) (v := .string (s ++ T)) rfl (by kernel_rfl) (Or.inl ⟨by kernel_rfl, fun w' hS => by go_simp⟩) hHeld ?_
      simp only [Act.put, s1_, s2_, s3_]
      refine wpAnyH_done (by kernel_rfl) ?_ _
      have HBz := hide (HB.out.trans (hHeld.mono (by omega)))
      go_wp2_with fail
      go_ret
      exact ⟨_, rfl, by rw [strB_app, HS.out, HTB.out]; exact HDIG.out, HBz.out⟩
end Go.Proofs.YthdjgebbjogmiaaDoor

namespace Go.Proofs.YthdjgebbjogmiaaDoor
open Go Go.RowKit
set_option maxRecDepth 100000

/-- A capability as data. -/
structure CapD where
 kind : Int
 key : List Int
 fp : List Int
 K : Int
 N : Int
 S : Int
 lit : List Int

/-- What a capability's type says. -/
structure CapD.Wf (c : CapD) : Prop where
 keyL : c.key.length = 16
 keyB : Bytes c.key
 fpL : c.fp.length = 32
 fpB : Bytes c.fp
 litB : Bytes c.lit

abbrev zeros (n : Nat) : List Int := List.replicate n 0
def CapD.none_ : CapD := ⟨0, zeros 16, zeros 32, 0, 0, 0, []⟩
theorem zeros_bytes (n : Nat) : Bytes (zeros n) := fun x hx => by
 obtain rfl := List.eq_of_mem_replicate hx
 omega
theorem CapD.none_wf : CapD.none_.Wf := ⟨rfl, zeros_bytes 16, rfl, zeros_bytes 32, fun x hx => by cases hx⟩

/-- May there be such a one? -/
def CapD.Valid (c : CapD) : Prop :=
 ((c.kind = 1 ∨ c.kind = 2) ∧ 1 ≤ c.K ∧ c.K ≤ c.N ∧ c.N ≤ 16 ∧ 1 ≤ c.S ∧ c.S ≤ 1024 ∧ c.lit.length = 0) ∨
 (c.kind = 3 ∧ c.lit.length ≤ 64 ∧ c.key = zeros 16 ∧ c.fp = zeros 32 ∧ c.K = 0 ∧ c.N = 0 ∧ c.S = 0) ∨
 (4 ≤ c.kind ∧ c.kind ≤ 9 ∧ c.K = 0 ∧ c.N = 0 ∧ c.S = 0 ∧ c.lit.length = 0)
instance (c : CapD) : Decidable c.Valid := by unfold CapD.Valid; infer_instance

/-- The kinds' words. -/
def wordL : Nat → List Int
 | 1 => [102, 105, 108, 101]
 | 2 => [102, 105, 108, 101, 45, 118, 101, 114, 105, 102, 121]
 | 3 => [108, 105, 116]
 | 4 => [115, 108, 111, 116]
 | 5 => [115, 108, 111, 116, 45, 114, 101, 97, 100]
 | 6 => [115, 108, 111, 116, 45, 118, 101, 114, 105, 102, 121]
 | 7 => [100, 105, 114]
 | 8 => [100, 105, 114, 45, 114, 101, 97, 100]
 | 9 => [100, 105, 114, 45, 118, 101, 114, 105, 102, 121]
 | _ => []

/-- The text. -/
def printF (c : CapD) : List Int :=
 [97, 117, 58] ++ (wordL c.kind.toNat ++ (58 :: (if c.kind = 3 then b32F c.lit else
  b32F c.key ++ (58 :: (b32F c.fp ++ (if c.kind ≤ 2 then 58 :: (digB c.K.toNat ++ (58 :: (digB c.N.toNat ++ (58 :: digB c.S.toNat)))) else []))))))

/-- A text's parts between colons. -/
def splitF : List Int → List (List Int)
 | [] => [[]]
 | c :: cs => if c = 58 then [] :: splitF cs else match splitF cs with
  | [] => [[c]]
  | p :: ps => (c :: p) :: ps
theorem wordL_ok : ∀ k : Fin 10, ∀ x ∈ wordL k.val, x ≠ 58 ∧ 0 ≤ x ∧ x < 256 := by decide
theorem digB_short : ∀ (k n : Nat), n < 10 ^ (k + 1) → (digB n).length ≤ k + 1
 | 0, n, h => by rw [digB_one (by omega)]; simp
 | k + 1, n, h => by
  by_cases h2 : n < 10
  · rw [digB_one h2]; simp
  · rw [digB_more h2, List.length_append]
    have := digB_short k (n / 10) (by rw [Nat.pow_succ] at h; omega)
    simp
    omega

theorem printF_bytes {c : CapD} (hv : c.Valid) : Bytes (printF c) := by
 have hk : c.kind.toNat < 10 := by unfold CapD.Valid at hv; omega
 have hw : Bytes (wordL c.kind.toNat) := fun x hx => (wordL_ok ⟨_, hk⟩ x hx).2
 have cons : ∀ {xs : List Int}, Bytes xs → Bytes (58 :: xs) := fun {xs} h x hx => by
  rcases List.mem_cons.1 hx with rfl | hx
  · omega
  · exact h x hx
 have app : ∀ {xs ys : List Int}, Bytes xs → Bytes ys → Bytes (xs ++ ys) := fun {xs ys} h1 h2 x hx => (List.mem_append.1 hx).elim (h1 x) (h2 x)
 unfold printF
 refine app (by intro x hx; simp at hx; omega) (app hw (cons ?_))
 split
 · exact b32F_bytes _
 · refine app (b32F_bytes _) (cons (app (b32F_bytes _) ?_))
   split
   · exact cons (app (digB_bytes _) (cons (app (digB_bytes _) (cons (digB_bytes _)))))
   · intro x hx; cases hx

/-- The last look. -/
def pick (o : Option CapD) (s : List Int) : Option CapD := o.bind fun c => if c.Valid ∧ printF c = s then some c else none
end Go.Proofs.YthdjgebbjogmiaaDoor
