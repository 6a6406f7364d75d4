/- A hash on its way in its block: reads, writes; a row's rest as a view. No condition.
(*Sha).Write on a new hash: its whole blocks are mixed in, what is left is kept. Condition: the bytes lie below the hash, at most 2^46.
aumbryref01.Put, walked.
code.Put, walked. No condition. -/
import Derived.Test.YthdjgebbjogmiaaDoorJoin10
import Derived.Deep.DeepCutAuto
import Derived.Deep.CutRange
import Derived.LoopIn
namespace Go.Proofs.YthdjgebbjogmiaaDoor
open Go Go.RowKit
set_option maxRecDepth 100000

section
variable {h ks h' : List Int} {l l' : Value} {n m : Int} {w w' : World} {g : Nat}
theorem sc_len (hh : h.length = 8) (hk : ks.length = 64) : (shaCells h ks l n).length = 74 := by simp [shaCells, u32s_len, hh, hk]
theorem sc_tail (hh : h.length = 8) (hk : ks.length = 64) (j : Nat) : (shaCells h ks l n)[72 + j]? = [l, Value.int .i64 n][j]? := by
 unfold shaCells
 rw [List.getElem?_append_right (by rw [u32s_len]; omega), List.getElem?_append_right (by rw [u32s_len, u32s_len]; omega), u32s_len, u32s_len, hh, hk]
 congr 1
 omega
theorem sc_ks (hh : h.length = 8) (hk : ks.length = 64) (j : Nat) (u : Value) (hu : (u32s ks)[j]? = some u) : (shaCells h ks l n)[8 + j]? = some u := by
 have hj := (List.getElem?_eq_some_iff.1 hu).1
 unfold shaCells
 rw [List.getElem?_append_right (by rw [u32s_len]; omega), u32s_len, hh, Nat.add_sub_cancel_left, List.getElem?_append_left hj]
 exact hu
theorem sc_h (j : Nat) (u : Value) (hu : (u32s h)[j]? = some u) : (shaCells h ks l n)[0 + j]? = some u := by
 have hj := (List.getElem?_eq_some_iff.1 hu).1
 unfold shaCells
 rw [Nat.zero_add, List.getElem?_append_left hj]
 exact hu
theorem sc_setN (hh : h.length = 8) (hk : ks.length = 64) : (shaCells h ks l n).set 73 (.int .i64 m) = shaCells h ks l m := by
 unfold shaCells
 rw [List.set_append_right _ _ (by rw [u32s_len]; omega), List.set_append_right _ _ (by rw [u32s_len, u32s_len]; omega), u32s_len, u32s_len, hh, hk]
 rfl
theorem sc_setLeft (hh : h.length = 8) (hk : ks.length = 64) : (shaCells h ks l n).set 72 l' = shaCells h ks l' n := by
 unfold shaCells
 rw [List.set_append_right _ _ (by rw [u32s_len]; omega), List.set_append_right _ _ (by rw [u32s_len, u32s_len]; omega), u32s_len, u32s_len, hh, hk]
 rfl
theorem sc_putH (hh : h.length = 8) (hh' : h'.length = 8) : lset (shaCells h ks l n) 0 (u32s h') = shaCells h' ks l n := by
 refine List.ext_getElem? fun j => ?_
 rw [lset_get _ _ _ _ (by unfold shaCells; rw [List.length_append, u32s_len, u32s_len]; omega)]
 unfold shaCells
 rw [u32s_len, hh']
 by_cases hj : 0 ≤ j ∧ j < 0 + 8
 · rw [if_pos hj, List.getElem?_append_left (by rw [u32s_len]; omega)]; rfl
 · rw [if_neg hj, List.getElem?_append_right (l₁ := u32s h) (by rw [u32s_len]; omega), List.getElem?_append_right (l₁ := u32s h') (by rw [u32s_len]; omega), u32s_len, u32s_len, hh, hh']
theorem ShaB.cLeft (hS : ShaB w g h ks l n) (hh : h.length = 8) (hk : ks.length = 64) : w.cell? ⟨g, 72, none⟩ = some l := (Blk.cell hS 72).trans (sc_tail hh hk 0)
theorem ShaB.cN (hS : ShaB w g h ks l n) (hh : h.length = 8) (hk : ks.length = 64) : w.cell? ⟨g, 73, none⟩ = some (.int .i64 n) := (Blk.cell hS 73).trans (sc_tail hh hk 1)
theorem ShaB.rK (hS : ShaB w g h ks l n) (hh : h.length = 8) (hk : ks.length = 64) : w.rangeAt g 8 (u32s ks) := blk_range hS 8 _ (sc_ks hh hk)
theorem ShaB.rH (hS : ShaB w g h ks l n) : w.rangeAt g 0 (u32s h) := blk_range hS 0 _ sc_h
variable {o : Oper} {a : Act} {K : Act → World → Prop} {Q : Exit → Act → World → Prop} {ops : Array Oper} {rest : List Oper}
theorem wpList_sha_putN (hgd : o.guard = none) (x y : Operand) (ho : o.op = .store 3 x y) (hx : a.eval x = .pointer (some ⟨g, 73, none⟩)) (hS : ShaB w g h ks l n) (hh : h.length = 8) (hk : ks.length = 64) (hy : a.eval y = .int .i64 m)
 (hc : ∀ w', ShaB w' g h ks l m → w.grownBy w' (some g) → w'.heap.size = w.heap.size → wpList Tryd.prog ops Q rest (a.put o.dst undef) w') : wpList Tryd.prog ops Q (o :: rest) a w :=
 wpList_plain hgd fun _ hK => by
  have hg := grown_setCells (g := g) [Value.int .i64 m] w 73
  refine wp_store_one _ x y ho g 73 hx _ hy (by rw [hS.cN hh hk]; rfl) (Blk.frozen hS _) rfl (by kernel_rfl) (hK _ _ (hc _ ?_ hg.1 hg.2))
  have := Blk.set_ hS 73 (.int .i64 m)
  rwa [sc_setN hh hk] at this
theorem wpList_sha_putLeft (hgd : o.guard = none) (x y : Operand) (ho : o.op = .store 26 x y) (hx : a.eval x = .pointer (some ⟨g, 72, none⟩)) (hS : ShaB w g h ks l n) (hh : h.length = 8) (hk : ks.length = 64) (hy : a.eval y = l') (h1 : l'.oneCell' = true)
 (hc : ∀ w', ShaB w' g h ks l' n → w.grownBy w' (some g) → w'.heap.size = w.heap.size → wpList Tryd.prog ops Q rest (a.put o.dst undef) w') : wpList Tryd.prog ops Q (o :: rest) a w :=
 wpList_plain hgd fun _ hK => by
  have hg := grown_setCells (g := g) [l'] w 72
  refine wp_store_one _ x y ho g 72 hx _ hy (by rw [hS.cLeft hh hk]; rfl) (Blk.frozen hS _) h1 (by kernel_rfl) (hK _ _ (hc _ ?_ hg.1 hg.2))
  have := Blk.set_ hS 72 l'
  rwa [sc_setLeft hh hk] at this
theorem wp_sha_loadHD (d : Nat) (hd : o.dst = some d) (x : Operand) (ho : o.op = .load 104 x) (hx : a.eval x = .pointer (some ⟨g, 0, none⟩)) (hS : ShaB w g h ks l n) (hh : h.length = 8) (hc : K (a.put (some d) (.agg (u32s h).toArray)) w) : o.wp Tryd.prog a w K Q :=
 wp_load_mid _ x ho g 0 hx _ _ hS.rH Tryd.underlying104 rfl (by rw [u32s_len, hh]; exact size_a8) (by rw [hd]; exact hc)
theorem wpList_sha_loadH (hgd : o.guard = none) (x : Operand) (ho : o.op = .load 104 x) (hx : a.eval x = .pointer (some ⟨g, 0, none⟩)) (hS : ShaB w g h ks l n) (hh : h.length = 8) (hc : wpList Tryd.prog ops Q rest (a.put o.dst (.agg (u32s h).toArray)) w) : wpList Tryd.prog ops Q (o :: rest) a w :=
 wpList_plain hgd fun _ hK => wp_load_mid _ x ho g 0 hx _ _ hS.rH Tryd.underlying104 rfl (by rw [u32s_len, hh]; exact size_a8) (hK _ _ hc)
theorem wp_sha_putHD (hd : o.dst = none) (x y : Operand) (ho : o.op = .store 104 x y) (hx : a.eval x = .pointer (some ⟨g, 0, none⟩)) (hy : a.eval y = .agg (u32s h').toArray) (hS : ShaB w g h ks l n) (hh : h.length = 8) (hk : ks.length = 64) (hh' : h'.length = 8)
 (hc : ∀ w', ShaB w' g h' ks l n → w.grownBy w' (some g) → w'.heap.size = w.heap.size → K a w') : o.wp Tryd.prog a w K Q :=
 wp_store_blkD _ x y ho hd g 0 (u32s h') hx hy _ _ hS (by rw [u32s_len, sc_len hh hk]; omega) (by rw [u32s_len, hh']; exact size_a8) (u32s_one _) fun w' a1 a2 a3 => hc w' (by rw [sc_putH hh hh'] at a1; exact a1) a2 a3
theorem exec_field_sha (x : Operand) (k off : Nat) (ho : o.op = .fieldAddr 126 x k) (g : Nat) (hx : a.eval x = .pointer (some ⟨g, 0, none⟩)) (hk : [0, 8, 72, 73][k]? = some off) : (execOp a.eval o).run Tryd.prog w = .ok (.value (.pointer (some ⟨g, off, none⟩))) w := by
 unfold execOp
 simp only [ho, hx]
 have h7 : k < 4 := by have := (List.getElem?_eq_some_iff.1 hk).1; simpa using this
 obtain rfl | rfl | rfl | rfl : k = 0 ∨ k = 1 ∨ k = 2 ∨ k = 3 := by omega
 all_goals (simp at hk; subst hk; go_simp)
theorem exec_to64 (x : Operand) (ho : o.op = .slice 26 x none (some (.const (.int .i64 64))) none) (b of n c : Nat) (hx : a.eval x = .slice (some ⟨b, of, none⟩) n c) (hc : 64 ≤ c) : (execOp a.eval o).run Tryd.prog w = .ok (.value (.slice (some ⟨b, of, none⟩) 64 c)) w := by
 unfold execOp
 simp only [ho, hx]
 have h64 : (64 : Int) ≤ (c : Int) := by omega
 go_simp
end
/-- A row's rest: a view of a block that is not g. -/
def Suf (w : World) (g : Nat) (v : Value) (xs : List Int) : Prop :=
 (v = .slice none 0 0 ∧ xs = []) ∨ ∃ (r o c : Nat) (cur : List Int) (f : Nat × Nat), v = .slice (some ⟨r, o, none⟩) xs.length c ∧ r ≠ g ∧ BlkF w r 5 (u8s cur) f ∧ xs.length ≤ c ∧ c ≤ maxLen ∧ (cur.drop o).take xs.length = xs
section
variable {w w' : World} {g : Nat} {v : Value} {xs : List Int}
theorem Suf.of_row {base : Nat} (h : RowB w base v xs) (hg : g < base) : Suf w g v xs := by
 rcases h with ⟨rfl, rfl⟩ | ⟨r, cap, cur, f, rfl, h1, hB, _, hl, hc, _, _, ht⟩
 · exact .inl ⟨rfl, rfl⟩
 · exact .inr ⟨r, 0, cap, cur, f, rfl, by omega, hB, hl, hc, by rw [List.drop_zero]; exact ht⟩
theorem Suf.of_old {base : Nat} (h : RowB w base v xs) (hg : w.heap.size ≤ g) : Suf w g v xs := by
 rcases h with ⟨rfl, rfl⟩ | ⟨r, cap, cur, f, rfl, h1, hB, _, hl, hc, _, _, ht⟩
 · exact .inl ⟨rfl, rfl⟩
 · exact .inr ⟨r, 0, cap, cur, f, rfl, by have := hB.lt; omega, hB, hl, hc, by rw [List.drop_zero]; exact ht⟩
theorem Suf.reads (h : Suf w g v xs) : Bs w w.heap.size v xs := by
 rcases h with ⟨rfl, rfl⟩ | ⟨r, o, cap, cur, f, rfl, _, hB, hl, hc, ht⟩
 · exact Bs.nil_ _ _
 · refine ⟨_, cap, rfl, hl, hc, by rw [u8s_len]; omega, fun _ => ⟨r, o, rfl, hB.lt, fun j u hu => ?_⟩⟩
   rw [hB.cell]
   have hj : j < xs.length := by
    have := (List.getElem?_eq_some_iff.1 hu).1
    rwa [u8s_len] at this
   rw [← hu, ← ht]
   unfold u8s
   rw [List.getElem?_map, List.getElem?_map, List.getElem?_take_of_lt hj, List.getElem?_drop]
theorem Suf.keptB (h : Suf w g v xs) (hb : Below w.heap.size w w') : Suf w' g v xs := by
 rcases h with h | ⟨r, o, cap, cur, f, h1, h2, hB, h3⟩
 · exact .inl h
 · exact .inr ⟨r, o, cap, cur, f, h1, h2, hB.below hb hB.lt, h3⟩
theorem Suf.kept (h : Suf w g v xs) (hb : w.grownBy w' (some g)) : Suf w' g v xs := by
 rcases h with h | ⟨r, o, cap, cur, f, h1, h2, hB, h3⟩
 · exact .inl h
 · exact .inr ⟨r, o, cap, cur, f, h1, h2, hB.grown hb (by intro h; injection h with h; exact h2 h), h3⟩
theorem Suf.shape (h : Suf w g v xs) : ∃ A c, v = .slice A xs.length c := by
 rcases h with ⟨rfl, rfl⟩ | ⟨r, o, cap, cur, f, rfl, h⟩
 · exact ⟨none, 0, rfl⟩
 · exact ⟨_, _, rfl⟩
theorem Suf.one (h : Suf w g v xs) : v.oneCell' = true := by
 obtain ⟨A, c, rfl⟩ := h.shape
 rfl
/-- 64 bytes at least: where they lie. -/
theorem Suf.pos (h : Suf w g v xs) (hl : 0 < xs.length) : ∃ r o c, v = .slice (some ⟨r, o, none⟩) xs.length c ∧ xs.length ≤ c ∧ c ≤ maxLen ∧ Suf w g (.slice (some ⟨r, o, none⟩) xs.length c) xs := by
 have h0 := h
 rcases h with ⟨rfl, rfl⟩ | ⟨r, o, cap, cur, f, rfl, h1, h2, h3, h4, _⟩
 · simp at hl
 · exact ⟨r, o, cap, rfl, h3, h4, h0⟩
theorem Suf.rest {r o c : Nat} (h : Suf w g (.slice (some ⟨r, o, none⟩) xs.length c) xs) (hl : 64 ≤ xs.length) (n : Nat) (hn : n + 64 = xs.length) : Suf w g (.slice (some ⟨r, o + 64, none⟩) n (c - 64)) (xs.drop 64) := by
 rcases h with ⟨h, _⟩ | ⟨r', o', cap, cur, f, e, h1, hB, h3, h4, h5⟩
 · cases h
 · injection e with e1 e2 e3
   injection e1 with e1
   injection e1 with e1 e4
   subst e1 e3 e4
   have hl2 : (xs.drop 64).length = n := by rw [List.length_drop]; omega
   refine .inr ⟨r, o + 64, c - 64, cur, f, by rw [hl2], h1, hB, by omega, by omega, ?_⟩
   rw [hl2]
   conv => rhs; rw [← h5]
   rw [List.drop_take, List.drop_drop]
   congr 1
   omega
theorem Suf.rest_if {r o c : Nat} (h : Suf w g (.slice (some ⟨r, o, none⟩) xs.length c) xs) (hl : 64 ≤ xs.length) (n : Nat) (hn : n + 64 = xs.length) : Suf w g (.slice (if c = 64 then some ⟨r, o, none⟩ else some ⟨r, o + 64, none⟩) n (c - 64)) (xs.drop 64) := by
 by_cases hc : c = 64
 · rw [if_pos hc]
   rcases h with ⟨h, _⟩ | ⟨r', o', cap, cur, f, e, h1, hB, h3, h4, h5⟩
   · cases h
   · injection e with e1 e2 e3
     injection e1 with e1
     injection e1 with e1 e4
     subst e1 e3 e4
     have e0 : xs.drop 64 = [] := List.drop_eq_nil_of_le (by omega)
     have en : n = 0 := by omega
     subst en
     rw [e0]
     exact .inr ⟨r, o, c - 64, cur, f, rfl, h1, hB, by simp, by omega, by simp⟩
 · rw [if_neg hc]
   exact h.rest hl n hn
end
end Go.Proofs.YthdjgebbjogmiaaDoor

namespace Go.Proofs.YthdjgebbjogmiaaDoor
open Go Go.RowKit

set_option maxRecDepth 100000
set_option maxHeartbeats 4000000 in
theorem Write_new (h b : List Int) (g : Nat) (v : Value) (w : World) (hh : h.length = 8) (hS : ShaB w g h kT (.slice none 0 0) 0) (hv : Bs w g v b) (hb : Bytes b) (hn : b.length ≤ 70368744177664) :
 Calls Tryd.prog 101 #[.pointer (some ⟨g, 0, none⟩), v] w fun e w' => e = .returned (.int .i64 (b.length : Int)) ∧ ∃ lv, ShaB w' g (blocksN kT h b (b.length / 64)) kT lv (b.length : Int) ∧ Suf w' g lv (b.drop (64 * (b.length / 64))) ∧ Below g w w' := by
 have HH := hide hh
 have HV := hide hv
 have HBY := hide hb
 have HS := hide hS
 have c73 := hS.cN hh rfl
 have hgz := Blk.lt hS
 obtain ⟨A, cp, rfl, h1, h2, h3⟩ := hv.open_
 have HBL := hide (fun i => blocksN_len kT h b hh i)
 have HBM := hide (fun i => show mixF kT (blocksN kT h b i) ((b.drop (64 * i)).take 64) = blocksN kT h b (i + 1) from mixF_take _ _ _)
 have HDR := hide (fun i => show (b.drop (64 * i)).drop 64 = b.drop (64 * (i + 1)) by rw [List.drop_drop]; congr 1)
 have HDL := hide (fun i => show (b.drop (64 * i)).length = b.length - 64 * i from List.length_drop)
 obtain ⟨L, HL⟩ : ∃ n : Nat, Hid (b.length = n) := ⟨_, hide rfl⟩
 rw [HL.out] at h1 hn HV ⊢
 simp only [HL.out] at HDL
 clear hS hv hb hh h3
 go_enter Tryd.func101, Tryd.ntmps101
 go_wp2_with (first
  | (refine wpList_sha_putN (m := (L : Int)) rfl _ _ rfl rfl HS.out HH.out rfl rfl ?_; intro w1 hs1 hg1 hz1; have HS1 := hide hs1; have c72 := hs1.cLeft HH.out rfl; have HW1 := hide ((Below.refl g w).grown hg1 (by omega) (by intro k hk; simp at hk; omega)); have HV1 := hide (HV.out.below HW1.out (Nat.le_refl _)); clear hs1 hg1 HS HV c73)
  | (at_builtin; refine wpList_append_B rfl _ _ rfl (g + 1) _ [] rfl HO2.out _ _ b rfl HV2.out HBY.out (by rw [HL.out]; simp; omega) (by omega) ?_; intro v22 w3 ho3 hg3; rw [List.nil_append] at ho3; have HO3 := hide ho3; have HS3 := hide (show ShaB w3 g h kT (.slice none 0 0) L from Blk.grown HS2.out hg3 (by intro he; have := (HO2.out.base_ g he.symm).1; omega)); have HW3 := hide (HW2.out.grown hg3 (by omega) (fun k hk => by have := (HO2.out.base_ k hk).1; omega)); clear ho3 hg3 HS2 HV2 HW2 HO2)
  | (at_builtin; refine wpList_append_B rfl _ _ rfl (g + 1) (.slice none 0 0) [] rfl (RowB.nil_ _ _) w1.heap.size (.slice none 0 0) [] rfl (Bs.nil_ _ _) (by intro x hx; cases hx) (by simp) (by omega) ?_; intro v20 w2 ho2 hg2; rw [List.nil_append] at ho2; have HO2 := hide ho2; have hz2 := hg2.size; have HS2 := hide (show ShaB w2 g h kT (.slice none 0 0) L from Blk.grown HS1.out hg2 (by simp [Value.ownBlock])); have HW2 := hide (HW1.out.grown hg2 (by omega) (by intro k hk; simp [Value.ownBlock] at hk)); have HV2 := hide (HV1.out.below ((Below.refl g w1).grown hg2 (by omega) (by intro k hk; simp [Value.ownBlock] at hk)) (Nat.le_refl _)); clear ho2 hg2 HS1 HV1 HW1 c72))
 have HF3 := hide (Suf.of_row HO3.out (Nat.lt_succ_self g))
 clear HO3
 go_loopw [5] (fun v5 wr => ∃ i : Nat, i ≤ L / 64 ∧ Suf wr g v5 (b.drop (64 * i)) ∧ ShaB wr g (blocksN kT h b i) kT (.slice none 0 0) L ∧ Below g w wr) (fun v5 _ => (match v5 with | .slice _ n _ => n | _ => 0))
 case atStart => exact ⟨0, by omega, HF3.out, HS3.out, HW3.out⟩
 case round =>
  obtain ⟨i, hi, hf, hs, hw⟩ := hrel
  clear HF3 HS3 HW3
  have HHL := hide (HBL.out i)
  have HHN := hide (HBL.out (i + 1))
  have HMX := hide (HBM.out i)
  have HXD := hide (HDR.out i)
  have hxl := HDL.out i
  have HF := hide hf
  have HS := hide hs
  have HW := hide hw
  clear hf hs hw
  by_cases hi64 : i < L / 64
  · obtain ⟨xs, HXS⟩ : ∃ x, Hid (b.drop (64 * i) = x) := ⟨_, hide rfl⟩
    obtain ⟨H, HHX⟩ : ∃ x, Hid (blocksN kT h b i = x) := ⟨_, hide rfl⟩
    obtain ⟨H2, HHY⟩ : ∃ x, Hid (blocksN kT h b (i + 1) = x) := ⟨_, hide rfl⟩
    rw [HXS.out] at HF HMX HXD hxl
    rw [HHX.out] at HS HMX HHL
    rw [HHY.out] at HMX HHN
    obtain ⟨r, o, c, rfl, hc1, hc2, hF⟩ := HF.out.pos (by omega)
    unfold maxLen at hc2
    replace HF := hide hF
    clear hF
    obtain ⟨n, HN⟩ : ∃ n : Nat, Hid (xs.length = n) := ⟨_, hide rfl⟩
    have hn64 : 64 ≤ n ∧ 64 ≤ xs.length := by have := HN.out; omega
    have HNX := HN
    rw [HN.out] at hc1 HF hxl ⊢
    have i64 : (64 : Int) ≤ (n : Int) := by omega
    have i65 : (64 : Int) ≤ (c : Int) := by omega
    go_upto_region 4 with fail
    refine wp_region_held_drew (S := fun w' => Below g w w') (by kernel_rfl) HW.out.drew (fun hHeld => ?_)
    replace HS := hide (show ShaB _ g H kT (.slice none 0 0) L from Blk.drew HS.out)
    replace HF := hide (Suf.keptB HF.out ((Below.refl _ _).drew))
    refine take_e 26 (i := 0) (v := (.pointer (some ⟨g, 0, none⟩))) rfl (by kernel_rfl) (Or.inl ⟨by kernel_rfl, fun w' hS => exec_move _ rfl _ rfl⟩) hHeld ?_
    try simp only [Act.put, s1_, s2_, s3_]
    refine take_e 27 (i := 1) (v := (.pointer (some ⟨g, 0, none⟩))) rfl (by kernel_rfl) (Or.inl ⟨by kernel_rfl, fun w' hS => exec_move _ rfl _ rfl⟩) hHeld ?_
    try simp only [Act.put, s1_, s2_, s3_]
    refine take_e 28 (i := 2) (v := (.pointer (some ⟨g, 0, none⟩))) rfl (by kernel_rfl) (Or.inl ⟨by kernel_rfl, fun w' hS => exec_nilCheck _ rfl _ rfl⟩) hHeld ?_
    try simp only [Act.put, s1_, s2_, s3_]
    refine take_e 29 (i := 3) (v := (.pointer (some ⟨g, 0, none⟩))) rfl (by kernel_rfl) (Or.inl ⟨by kernel_rfl, fun w' hS => exec_field_sha _ 0 0 rfl g rfl rfl⟩) hHeld ?_
    try simp only [Act.put, s1_, s2_, s3_]
    refine take_e 31 (i := 5) (v := (.pointer (some ⟨g, 0, none⟩))) rfl (by kernel_rfl) (Or.inl ⟨by kernel_rfl, fun w' hS => exec_move _ rfl _ rfl⟩) hHeld ?_
    try simp only [Act.put, s1_, s2_, s3_]
    refine take_e 32 (i := 6) (v := (.pointer (some ⟨g, 0, none⟩))) rfl (by kernel_rfl) (Or.inl ⟨by kernel_rfl, fun w' hS => exec_nilCheck _ rfl _ rfl⟩) hHeld ?_
    try simp only [Act.put, s1_, s2_, s3_]
    refine take_e 33 (i := 7) (v := (.pointer (some ⟨g, 8, none⟩))) rfl (by kernel_rfl) (Or.inl ⟨by kernel_rfl, fun w' hS => exec_field_sha _ 1 8 rfl g rfl rfl⟩) hHeld ?_
    try simp only [Act.put, s1_, s2_, s3_]
    refine take_e 34 (i := 8) (v := (.slice (some ⟨r, o, none⟩) n c)) rfl (by kernel_rfl) (Or.inl ⟨by kernel_rfl, fun w' hS => exec_move _ rfl _ rfl⟩) hHeld ?_
    try simp only [Act.put, s1_, s2_, s3_]
    refine take_e 35 (i := 9) (v := (.slice (some ⟨r, o, none⟩) 64 c)) rfl (by kernel_rfl) (Or.inl ⟨by kernel_rfl, fun w' hS => exec_to64 _ rfl r o n c rfl (by omega)⟩) hHeld ?_
    try simp only [Act.put, s1_, s2_, s3_]
    refine wpAnyH_ready (rs := [4]) (by kernel_rfl) (by simp) (AllReadyH.cons rfl (fun K hK => ?_) AllReadyH.nil)
    rw [if_pos (by kernel_rfl)]
    refine wp_sha_loadHD 30 rfl _ rfl rfl HS.out HHL.out ?_
    refine hK.out _ _ hHeld (fun hHeld => ?_)
    clear hK K
    try simp only [Act.put, s1_, s2_, s3_]
    refine wpAnyH_ready (rs := [10]) (by kernel_rfl) (by simp) (AllReadyH.cons rfl (fun K hK => ?_) AllReadyH.nil)
    rw [if_pos (by kernel_rfl)]
    try go_simp
    refine (mix_any H (xs.take 64) kT g 8 (.slice (some ⟨r, o, none⟩) 64 c) _ HHL.out rfl (by have := Bs.take HF.out.reads 64 (by omega); exact this) (by rw [List.length_take]; omega) (HS.out.rK HHL.out rfl) (Blk.lt HS.out)).mono ?_
    rintro e wc ⟨rfl, hb⟩
    rw [HMX.out]
    have HX := hide (hHeld.trans (hb.mono (by have := Blk.lt HS.out; omega)))
    replace HF := hide (HF.out.keptB hb)
    replace HS := hide (show ShaB wc g H kT (.slice none 0 0) L from Blk.below HS.out hb (Blk.lt HS.out))
    clear hb
    refine hK.out _ _ HX.out (fun hHeld => ?_)
    clear HX hK K
    try simp only [Act.put, s1_, s2_, s3_]
    refine take_e 37 (i := 11) (v := (.pointer (some ⟨g, 0, none⟩))) rfl (by kernel_rfl) (Or.inl ⟨by kernel_rfl, fun w' hS => exec_nilCheck _ rfl _ rfl⟩) hHeld ?_
    try simp only [Act.put, s1_, s2_, s3_]
    refine take_e 38 (i := 12) (v := (.pointer (some ⟨g, 0, none⟩))) rfl (by kernel_rfl) (Or.inl ⟨by kernel_rfl, fun w' hS => exec_field_sha _ 0 0 rfl g rfl rfl⟩) hHeld ?_
    try simp only [Act.put, s1_, s2_, s3_]
    refine wpAnyH_ready (rs := [13]) (by kernel_rfl) (by simp) (AllReadyH.cons rfl (fun K hK => ?_) AllReadyH.nil)
    rw [if_pos (by kernel_rfl)]
    refine wp_sha_putHD rfl _ _ rfl rfl rfl HS.out HHL.out rfl HHN.out ?_
    intro wp hbp hgp hsp
    have HX := hide (hHeld.grown hgp (by have := Blk.lt HS.out; omega) (by intro k hk; simp at hk; omega))
    replace HF := hide (HF.out.kept hgp)
    replace HS := hide hbp
    clear hbp hgp hsp
    refine hK.out _ _ HX.out (fun hHeld => ?_)
    clear HX hK K
    try simp only [Act.put]
    refine wpAnyH_done (by kernel_rfl) ?_ _
    replace HW := hide hHeld
    clear hHeld
    go_wp2_with fail
    go_roundw
    case measure => simp; omega
    case rel =>
     refine ⟨i + 1, by omega, ?_, by rw [HHY.out]; exact HS.out, HW.out⟩
     rw [← HXD.out]
     have hf := HF.out
     rw [← HN.out] at hf
     exact hf.rest_if hn64.2 _ (by have := HN.out; omega)
  · have e : i = L / 64 := by omega
    subst e
    obtain ⟨A5, c5, rfl⟩ := HF.out.shape
    have hlt : (b.drop (64 * (L / 64))).length < 64 := by omega
    obtain ⟨lv, HLV⟩ : ∃ x, Hid (Value.slice A5 (b.drop (64 * (L / 64))).length c5 = x) := ⟨_, hide rfl⟩
    have HONE := hide HF.out.one
    obtain ⟨m, HM⟩ : ∃ n : Nat, Hid ((b.drop (64 * (L / 64))).length = n) := ⟨_, hide rfl⟩
    rw [HM.out] at hlt HLV HF HONE ⊢
    have i64 : ¬ (64 : Int) ≤ (m : Int) := by omega
    go_wp2_with (first
     | (refine wpList_sha_putLeft rfl _ _ rfl rfl HS.out HHL.out rfl rfl HONE.out ?_; intro w5 hs5 hg5 hz5; have HS5 := hide hs5; have c73 := hs5.cN HHL.out rfl; have HW5 := hide (HW.out.grown hg5 (by have := Blk.lt HS.out; omega) (by intro k hk; simp at hk; omega)); have HF5 := hide (HF.out.kept hg5); clear hs5 hg5))
    refine bodyPost_ret (results_tmp rfl _ _ _) rfl ⟨rfl, _, HS5.out, HF5.out, HW5.out⟩
end Go.Proofs.YthdjgebbjogmiaaDoor

namespace Go.Proofs.YthdjgebbjogmiaaDoor
open Go Go.RowKit
set_option maxRecDepth 100000

theorem rep_getD0 (n j : Nat) : (List.replicate n (0 : Int)).getD j 0 = 0 := by
 rw [List.getD_eq_getElem?_getD, List.getElem?_replicate]; split <;> rfl
theorem getD_setP (l : List Int) (i j : Nat) (a : Int) (h : i < l.length) : (l.set i a).getD j 0 = if i = j then a else l.getD j 0 := by
 rw [List.getD_eq_getElem?_getD, List.getElem?_set, List.getD_eq_getElem?_getD]
 split
 · rename_i e; subst e; simp [h]
 · rfl
theorem ext_getP {xs ys : List Int} (hl : xs.length = ys.length) (h : ∀ j, j < xs.length → xs.getD j 0 = ys.getD j 0) : xs = ys :=
 List.ext_getElem hl fun j h1 h2 => by
  have := h j h1
  rwa [List.getD_eq_getElem?_getD, List.getD_eq_getElem?_getD, List.getElem?_eq_getElem h1, List.getElem?_eq_getElem h2] at this

set_option maxHeartbeats 2000000 in
theorem Put_ref (n width : Int) (w : World) (hn : -9223372036854775808 ≤ n ∧ n ≤ 9223372036854775807) (hw : -9223372036854775808 ≤ width ∧ width ≤ 9223372036854775807) :
 Calls Tryd.prog 80 #[.int .i64 n, .int .i64 width] w fun e w' => ∃ v', e = .returned v' ∧ Own8 w' w.heap.size v' (putF n width) ∧ Below w.heap.size w w' := by
 obtain ⟨N, HN⟩ : ∃ N, Hid ((max 0 n).toNat = N) := ⟨_, hide rfl⟩
 obtain ⟨W, HW⟩ : ∃ W, Hid (wid width = W) := ⟨_, hide rfl⟩
 have hW8 : W ≤ 8 := by rw [← HW.out]; exact wid_le _
 have HW2 := hide (show min (max width 0) 8 = (W : Int) by rw [← HW.out]; unfold wid; omega)
 have HN2 := hide (show max 0 n = (N : Int) by rw [← HN.out]; omega)
 have hN : (N : Int) ≤ 9223372036854775807 := by rw [← HN2.out]; omega
 unfold putF
 rw [HN.out, HW.out]
 obtain ⟨RES, HRES⟩ : ∃ x, Hid (putN N W = x) := ⟨_, hide rfl⟩
 rw [HRES.out]
 obtain ⟨hn1, hn2⟩ := hn
 obtain ⟨hw1, hw2⟩ := hw
 clear HN HW
 go_enter Tryd.func80, Tryd.ntmps80
 go_upto_if 8 with fail
 go_cut [0] (fun v0 wx => v0 = .int .i64 (N : Int) ∧ w = wx)
 case first =>
  go_wp2_with fail
  all_goals
   go_meet
   exact ⟨by have h := HN2.out; refine congrArg (Value.int .i64) ?_; omega, rfl⟩
 case rest =>
 obtain ⟨rfl, rfl⟩ := hcut
 go_upto_region 3 with fail
 go_cut [1] (fun v1 wx => v1 = .int .i64 (W : Int) ∧ w = wx)
 case first =>
  go_wp2_with fail
  all_goals
   go_meet
   exact ⟨by have h := HW2.out; refine congrArg (Value.int .i64) ?_; omega, rfl⟩
 case rest =>
 obtain ⟨rfl, rfl⟩ := hcut
 go_wp2_with (refine wpList_make_bytes rfl _ _ rfl .i64 .i64 W W rfl rfl (Nat.le_refl _) (by omega) ?_; intro w1 b1 hb1 hs1; have B1 := hide b1; have HB1 := hide hb1; clear b1 hb1 hs1)
 go_loopw [0, 6] (fun vn vi wr => ∃ (k : Nat) (xs : List Int), k ≤ W ∧ vi = .int .i64 ((W : Int) - 1 - (k : Int)) ∧ vn = .int .i64 ((N / 256 ^ k : Nat) : Int) ∧ xs.length = W ∧ (∀ j, j < W → xs.getD j 0 = if W ≤ j + k then ((N / 256 ^ (W - 1 - j) % 256 : Nat) : Int) else 0) ∧ Blk wr w.heap.size 5 (u8s xs) ∧ Below w.heap.size w wr) (fun _ vi _ => (intOf vi + 1).toNat)
 case atStart => exact ⟨0, List.replicate W 0, by omega, by simp, by simp, by simp, fun j hj => by rw [if_neg (by omega), rep_getD0], B1.out, HB1.out⟩
 case round =>
  clear B1 HB1
  obtain ⟨k, xs, hk, rfl, rfl, hl, hx, bx, hbel⟩ := hrel
  have HXL := hide hl
  have HX := hide hx
  have BX := hide bx
  have HBW := hide hbel
  clear hl hx bx hbel
  obtain ⟨m, HM⟩ : ∃ m, Hid (N / 256 ^ k = m) := ⟨_, hide rfl⟩
  have hmN : (m : Int) ≤ 9223372036854775807 := by
   have h1 : m ≤ N := by rw [← HM.out]; exact Nat.div_le_self _ _
   omega
  rw [HM.out]
  by_cases hkt : k < W
  · obtain ⟨jn, hjn⟩ : ∃ j, W - 1 - k = j := ⟨_, rfl⟩
    have ej : (W : Int) - 1 - (k : Int) = (jn : Int) := by omega
    have j0 : (0 : Int) ≤ (jn : Int) := by omega
    have j1 : (jn : Int) < (W : Int) := by omega
    have j2 : jn < W := by omega
    have HEJ := hide (show (jn : Int) - 1 = (W : Int) - 1 - ((k + 1 : Nat) : Int) by omega)
    have HKJ := hide (show jn + k = W - 1 by omega)
    have m0 : (0 : Int) ≤ (m : Int) := by omega
    rw [ej]
    obtain ⟨old, HOLD⟩ : ∃ x, Hid (xs.getD jn 0 = x) := ⟨_, hide rfl⟩
    have c3 := blk_get BX.out jn old (by rw [HXL.out]; exact j2) HOLD.out
    have f3 := BX.out.frozen jn
    clear ej hjn
    go_wp2_with fail
    go_roundw
    case measure => simp [intOf] <;> omega
    case rel =>
     refine ⟨k + 1, xs.set jn ((m : Int) % 256), by omega, by rw [HEJ.out], ?_, by simpa using HXL.out, fun j hj => ?_, ?_, HBW.out.setCell (p := ⟨w.heap.size, jn, none⟩) (Nat.le_refl _) _⟩
     · rw [Nat.pow_succ, ← Nat.div_div_eq_div_mul, HM.out]; refine congrArg (Value.int .i64) ?_; omega
     · have hkj := HKJ.out
       rw [getD_setP _ _ _ _ (by rw [HXL.out]; exact j2)]
       by_cases e : jn = j
       · subst e
         rw [if_pos rfl, if_pos (by omega), show W - 1 - jn = k by omega, HM.out]; omega
       · rw [if_neg e, HX.out j hj]
         by_cases h1 : W ≤ j + k
         · rw [if_pos h1, if_pos (by omega)]
         · rw [if_neg h1, if_neg (by omega)]
     · have := blk_set BX.out jn ((m : Int) % 256)
       first | exact this | (simpa using this)
  · have HR := hide (show xs = RES from ext_getP (by rw [HXL.out, ← HRES.out, putN_len]) fun j hj => by rw [HXL.out] at hj; rw [HX.out j hj, if_pos (by omega), ← HRES.out, putN_get N W j hj])
    have hk15 : ¬ (0 : Int) ≤ (W : Int) - 1 - (k : Int) := by omega
    have HOWN := hide (show Own8 wr w.heap.size (.slice (some ⟨w.heap.size, 0, none⟩) W W) RES by
     have h1 : Blk wr w.heap.size 5 (u8s RES) := by rw [← HR.out]; exact BX.out
     have hl : RES.length = W := by rw [← HRES.out, putN_len]
     have h2 := Own8.of_blk (base := w.heap.size) h1 (Nat.le_refl _) (by rw [hl]; unfold maxLen; omega)
     rw [hl] at h2
     exact h2)
    clear HR HX HRES
    go_wp2_with fail
    go_ret
    exact ⟨_, rfl, HOWN.out, HBW.out⟩
end Go.Proofs.YthdjgebbjogmiaaDoor

namespace Go.Proofs.YthdjgebbjogmiaaDoor
open Go Go.RowKit
set_option maxRecDepth 100000

set_option maxHeartbeats 2000000 in
theorem Put_any (n width : Int) (w : World) (hn : -9223372036854775808 ≤ n ∧ n ≤ 9223372036854775807) (hw : -9223372036854775808 ≤ width ∧ width ≤ 9223372036854775807) :
 Calls Tryd.prog 110 #[.int .i64 n, .int .i64 width] w fun e w' => ∃ v', e = .returned v' ∧ Own8 w' w.heap.size v' (putF n width) ∧ Below w.heap.size w w' := by
 obtain ⟨N, HN⟩ : ∃ N, Hid ((max 0 n).toNat = N) := ⟨_, hide rfl⟩
 obtain ⟨W, HW⟩ : ∃ W, Hid (wid width = W) := ⟨_, hide rfl⟩
 have hW8 : W ≤ 8 := by rw [← HW.out]; exact wid_le _
 have HW2 := hide (show min (max width 0) 8 = (W : Int) by rw [← HW.out]; unfold wid; omega)
 have HN2 := hide (show max 0 n = (N : Int) by rw [← HN.out]; omega)
 have hN : (N : Int) ≤ 9223372036854775807 := by rw [← HN2.out]; omega
 unfold putF
 rw [HN.out, HW.out]
 obtain ⟨RES, HRES⟩ : ∃ x, Hid (putN N W = x) := ⟨_, hide rfl⟩
 rw [HRES.out]
 obtain ⟨hn1, hn2⟩ := hn
 obtain ⟨hw1, hw2⟩ := hw
 clear HN HW
 go_enter Tryd.func110, Tryd.ntmps110
 have HWE := hide (show (if (0 : Int) < (if (8 : Int) < width then 8 else width) then (if (8 : Int) < width then 8 else width) else 0) = (W : Int) by rw [← HW2.out]; split <;> (try split) <;> omega)
 go_upto_region 2 with (refine wpList_make_bytes rfl _ _ rfl .i64 .i64 W W (congrArg (Value.int .i64) HWE.out) (congrArg (Value.int .i64) HWE.out) (Nat.le_refl _) (by omega) ?_; intro w1 b1 hb1 hs1; have B1 := hide b1; have HB1 := hide hb1; clear b1 hb1 hs1)
 rw [HWE.out]
 clear HWE
 generalize (if (8 : Int) < width then (8 : Int) else width) = s9
 go_cut [6] from 12 to 14 (fun v6 wx => v6 = .int .u64 (N : Int) ∧ w1 = wx)
 case first =>
  go_wp2_with fail
  all_goals
   go_meet
   exact ⟨by have h := HN2.out; refine congrArg (Value.int .u64) ?_; (try split) <;> omega, rfl⟩
 case rest =>
 obtain ⟨rfl, rfl⟩ := hcut
 go_wp2_with fail
 go_loopw [6, 7] (fun vn vi wr => ∃ (k : Nat) (xs : List Int), k ≤ W ∧ vi = .int .i64 ((W : Int) - 1 - (k : Int)) ∧ vn = .int .u64 ((N / 256 ^ k : Nat) : Int) ∧ xs.length = W ∧ (∀ j, j < W → xs.getD j 0 = if W ≤ j + k then ((N / 256 ^ (W - 1 - j) % 256 : Nat) : Int) else 0) ∧ Blk wr w.heap.size 5 (u8s xs) ∧ Below w.heap.size w wr) (fun _ vi _ => (intOf vi + 1).toNat)
 case atStart => exact ⟨0, List.replicate W 0, by omega, by simp, by simp, by simp, fun j hj => by rw [if_neg (by omega), rep_getD0], B1.out, HB1.out⟩
 case round =>
  clear B1 HB1
  obtain ⟨k, xs, hk, rfl, rfl, hl, hx, bx, hbel⟩ := hrel
  have HXL := hide hl
  have HX := hide hx
  have BX := hide bx
  have HBW := hide hbel
  clear hl hx bx hbel
  obtain ⟨m, HM⟩ : ∃ m, Hid (N / 256 ^ k = m) := ⟨_, hide rfl⟩
  have hmN : (m : Int) ≤ 9223372036854775807 := by
   have h1 : m ≤ N := by rw [← HM.out]; exact Nat.div_le_self _ _
   omega
  rw [HM.out]
  by_cases hkt : k < W
  · obtain ⟨jn, hjn⟩ : ∃ j, W - 1 - k = j := ⟨_, rfl⟩
    have ej : (W : Int) - 1 - (k : Int) = (jn : Int) := by omega
    have j0 : (0 : Int) ≤ (jn : Int) := by omega
    have j1 : (jn : Int) < (W : Int) := by omega
    have j2 : jn < W := by omega
    have HEJ := hide (show (jn : Int) - 1 = (W : Int) - 1 - ((k + 1 : Nat) : Int) by omega)
    have HKJ := hide (show jn + k = W - 1 by omega)
    have m0 : (0 : Int) ≤ (m : Int) := by omega
    rw [ej]
    obtain ⟨old, HOLD⟩ : ∃ x, Hid (xs.getD jn 0 = x) := ⟨_, hide rfl⟩
    have c3 := blk_get BX.out jn old (by rw [HXL.out]; exact j2) HOLD.out
    have f3 := BX.out.frozen jn
    clear ej hjn
    go_wp2_with fail
    go_roundw
    case measure => simp [intOf] <;> omega
    case rel =>
     refine ⟨k + 1, xs.set jn ((m : Int) % 256), by omega, by rw [HEJ.out], ?_, by simpa using HXL.out, fun j hj => ?_, ?_, HBW.out.setCell (p := ⟨w.heap.size, jn, none⟩) (Nat.le_refl _) _⟩
     · rw [Nat.pow_succ, ← Nat.div_div_eq_div_mul, HM.out]; refine congrArg (Value.int .u64) ?_; omega
     · have hkj := HKJ.out
       rw [getD_setP _ _ _ _ (by rw [HXL.out]; exact j2)]
       by_cases e : jn = j
       · subst e
         rw [if_pos rfl, if_pos (by omega), show W - 1 - jn = k by omega, HM.out]; omega
       · rw [if_neg e, HX.out j hj]
         by_cases h1 : W ≤ j + k
         · rw [if_pos h1, if_pos (by omega)]
         · rw [if_neg h1, if_neg (by omega)]
     · have := blk_set BX.out jn ((m : Int) % 256)
       first | exact this | (simpa using this)
  · have HR := hide (show xs = RES from ext_getP (by rw [HXL.out, ← HRES.out, putN_len]) fun j hj => by rw [HXL.out] at hj; rw [HX.out j hj, if_pos (by omega), ← HRES.out, putN_get N W j hj])
    have hk15 : ¬ (0 : Int) ≤ (W : Int) - 1 - (k : Int) := by omega
    have HOWN := hide (show Own8 wr w.heap.size (.slice (some ⟨w.heap.size, 0, none⟩) W W) RES by
     have h1 : Blk wr w.heap.size 5 (u8s RES) := by rw [← HR.out]; exact BX.out
     have hl : RES.length = W := by rw [← HRES.out, putN_len]
     have h2 := Own8.of_blk (base := w.heap.size) h1 (Nat.le_refl _) (by rw [hl]; unfold maxLen; omega)
     rw [hl] at h2
     exact h2)
    clear HR HX HRES
    go_wp2_with fail
    go_ret
    exact ⟨_, rfl, HOWN.out, HBW.out⟩
end Go.Proofs.YthdjgebbjogmiaaDoor
