/- A whole capability read, written inside a region that draws its order. No condition.
What both Parse functions use: the row of parts read, a capability's fields written inside a drawn region, the two results. No condition.
sha.Sum, sha.Text, sha.Tagged, sha.Short: the hash of bytes; of a tag and rows. Condition: at most 2^46 bytes; the table of powers of ten stands. -/
import Derived.Test.YthdjgebbjogmiaaDoorRight
import Derived.Deep.RegionHeld3
import Derived.Test.YthdjgebbjogmiaaDoorJoin9
import Derived.Test.YthdjgebbjogmiaaDoorJoin10
import Derived.Laws.ResultCell
import Derived.Laws.Cover3
import Derived.Test.YthdjgebbjogmiaaDoorShaSumM
import Derived.Test.YthdjgebbjogmiaaDoorJoin5
set_option linter.unusedVariables false
set_option linter.unusedSimpArgs false
namespace Go.Proofs.YthdjgebbjogmiaaDoor
open Go Go.RowKit
set_option maxRecDepth 100000
set_option linter.unusedVariables false

section
variable {o : Oper} {a : Act} {w : World} {K : Act → World → Prop} {Q : Exit → Act → World → Prop} {g : Nat} {c : CapD} {lit : Value}
theorem wp_cap_putAllD (hd : o.dst = none) (x y : Operand) (ho : o.op = .store 28 x y) (hx : a.eval x = .pointer (some ⟨g, 0, none⟩)) (hB : CapB w g c lit) (c' : CapD) (l' : Value) (hy : a.eval y = capV c' l')
 (h1 : c'.key.length = 16) (h2 : c'.fp.length = 32) (h3 : l'.oneCell' = true)
 (h : ∀ w', CapB w' g c' l' → w.grownBy w' (some g) → w'.heap.size = w.heap.size → K (a.put none undef) w') : o.wp Tryd.prog a w K Q :=
 wp_store_blk _ x y ho g 0 (capCells c' l') hx hy _ _ hB.blk (by rw [cc_len lit hB.keyL hB.fpL, cc_len l' h1 h2]; omega) (by rw [cc_len l' h1 h2]; exact size_cap) (CapB.ones (CapB.new_ w h1 h2 h3))
  fun w' a1 a2 a3 => by rw [hd]; exact h w' ⟨by rw [lset_all _ _ (by rw [cc_len lit hB.keyL hB.fpL, cc_len l' h1 h2])] at a1; exact a1, h1, h2, h3⟩ a2 a3
end
end Go.Proofs.YthdjgebbjogmiaaDoor

namespace Go.Proofs.YthdjgebbjogmiaaDoor
open Go Go.RowKit
set_option maxRecDepth 100000

/-- The parts in a row: part k in its cell. -/
def Parts (w : World) (B : Nat) (v : Value) (L : List (List Int)) : Prop := Rd w B 1 v L.length (L.map strV)
theorem Parts.open_ {w : World} {B : Nat} {v : Value} {L : List (List Int)} (h : Parts w B v L) (h0 : 0 < L.length) :
 ∃ b o c, v = .slice (some ⟨b, o, none⟩) L.length c ∧ L.length ≤ c ∧ b < B := by
 obtain ⟨A, c, rfl, h1, h2, h3, h4⟩ := h
 obtain ⟨b, o, rfl, hb, _⟩ := h4 h0
 exact ⟨b, o, c, rfl, h1, hb⟩
theorem Parts.cell {w : World} {B b o c : Nat} {L : List (List Int)} (h : Parts w B (.slice (some ⟨b, o, none⟩) L.length c) L) (k : Nat) (hk : k < L.length) :
 w.cell? ⟨b, o + k, none⟩ = some (.string (strOfNums (L.getD k []))) := by
 obtain ⟨A, c', he, h1, h2, h3, h4⟩ := h
 injection he with e1 e2 e3
 subst e1
 obtain ⟨b', o', hh, hb, hc⟩ := h4 (by omega)
 injection hh with hh
 injection hh with e4 e5 e6
 subst e4 e5
 refine hc k _ ?_
 rw [List.getElem?_map, List.getElem?_eq_getElem hk, List.getD_eq_getElem?_getD, List.getElem?_eq_getElem hk]
 rfl
theorem Parts.below {w w' : World} {B : Nat} {v : Value} {L : List (List Int)} (h : Parts w B v L) (hb : Below B w w') : Parts w' B v L := Rd.belowM h hb (Nat.le_refl _)

section
variable {o : Oper} {a : Act} {w : World} {K : Act → World → Prop} {Q : Exit → Act → World → Prop} {g : Nat} {c : CapD} {lit : Value}
theorem wp_cap_putD (hd : o.dst = none) (x y : Operand) (ho : o.op = .store 3 x y) (off : Nat) (hx : a.eval x = .pointer (some ⟨g, off, none⟩)) (hB : CapB w g c lit) (n : Int) (hy : a.eval y = .int .i64 n) (c' : CapD) (hn : capPut c n off = some c')
 (h : ∀ w', CapB w' g c' lit → w.grownBy w' (some g) → w'.heap.size = w.heap.size → K (a.put none undef) w') : o.wp Tryd.prog a w K Q := by
 have hlt : off < 53 := by
  unfold capPut at hn
  split at hn <;> first | omega | cases hn
 have hcell : w.cell? ⟨g, off, none⟩ = some ((capCells c lit)[off]'(by rw [cc_len lit hB.keyL hB.fpL]; exact hlt)) := by rw [hB.blk.cell]; exact List.getElem?_eq_getElem _
 have hg := grown_setCells (g := g) [Value.int .i64 n] w off
 refine wp_store_one _ x y ho g off hx _ hy (by rw [hcell]; rfl) (hB.blk.frozen _) rfl size_int ?_
 rw [hd]
 obtain ⟨e1, e2⟩ := capPut_len hn
 refine h _ ⟨?_, by rw [e1]; exact hB.keyL, by rw [e2]; exact hB.fpL, hB.one⟩ hg.1 hg.2
 have := hB.blk.set_ off (.int .i64 n)
 rw [cc_put hB.keyL hB.fpL hn] at this
 exact this
theorem wp_cap_putKeyD (hd : o.dst = none) (x y : Operand) (ho : o.op = .store 23 x y) (hx : a.eval x = .pointer (some ⟨g, 1, none⟩)) (hB : CapB w g c lit) (k : List Int) (hy : a.eval y = .agg (u8s k).toArray) (hk : k.length = 16)
 (h : ∀ w', CapB w' g { c with key := k } lit → w.grownBy w' (some g) → w'.heap.size = w.heap.size → K (a.put none undef) w') : o.wp Tryd.prog a w K Q :=
 wp_store_blk _ x y ho g 1 (u8s k) hx hy _ _ hB.blk (by rw [cc_len lit hB.keyL hB.fpL, u8s_len]; omega) (by rw [u8s_len, hk]; exact size_key) (u8s_one _)
  fun w' h1 h2 h3 => by rw [hd]; exact h w' ⟨by rw [cc_putKey hB.keyL k hk] at h1; exact h1, hk, hB.fpL, hB.one⟩ h2 h3
end
section
variable {o : Oper} {a : Act} {w : World}
theorem exec_arrayAt (arr : TypeId) (x : Operand) (ho : o.op = .sliceToArrayPointer arr x) (e : TypeId) (n : Nat) (ad : Option Addr) (l c : Nat) (hx : a.eval x = .slice ad l c) (ht : Tryd.prog.underlying arr = some (.array n e)) (hn : n ≤ l) :
 (execOp a.eval o).run Tryd.prog w = .ok (.value (.pointer ad)) w := by
 unfold execOp
 simp only [ho, hx, Sem.run_bind, run_arrayAt w arr e n ad l c ht hn, Result.andThen_ok, Sem.run_pure]
theorem exec_load_arr (ty : TypeId) (x : Operand) (ho : o.op = .load ty x) (g off : Nat) (hx : a.eval x = .pointer (some ⟨g, off, none⟩)) (d : TypeDesc) (cs : List Value) (hr : w.rangeAt g off cs) (hu : Tryd.prog.underlying ty = some d)
 (hd : d.isRow = true) (hi : (Tryd.prog.info? ty).map (·.size) = some cs.length) : (execOp a.eval o).run Tryd.prog w = .ok (.value (.agg cs.toArray)) w := by
 unfold execOp
 simp only [ho, hx, Instr.loadAt, Instr.sureAddr, Sem.run_bind, Sem.run_pure, Result.andThen_ok, run_loadVar_mid w g off _ _ _ hr hu hd hi]
end
theorem results_cap_err {fn : Func} {p u : Tmp} (h : fn.results = #[.cell p 28, .tmp u]) (tmps : Array Value) (w : World) (g : Nat) (c : CapD) (lit : Value)
 (hp : tmps.getD p undef = .pointer (some ⟨g, 0, none⟩)) (hB : CapB w g c lit) (v : Value) (hv : tmps.getD u undef = v) : (results fn tmps).run Tryd.prog w = .ok (.tuple #[capV c lit, v]) w := by
 rw [results_cell_tmp h, hp, hv]
 have := run_loadVar_row w g 28 28 (capCells c lit).toArray (0, 0) _ hB.blk Tryd.underlying28 rfl (by rw [List.size_toArray, cc_len _ hB.keyL hB.fpL]; exact size_cap)
 simp only [asAddr, Sem.run_pure, Result.andThen_ok, this]
 rfl
theorem RowB.off {w w' : World} {base g : Nat} {v : Value} {xs : List Int} (h : RowB w base v xs) (hg : w.grownBy w' (some g)) (hlt : g < base) : RowB w' base v xs :=
 h.kept hg (by
  cases hb : v.ownBlock with
  | none => exact .inl rfl
  | some k => exact .inr (by have := (h.base_ k hb).1; intro e; injection e with e; omega))
theorem RowB.one {w : World} {base : Nat} {v : Value} {xs : List Int} (h : RowB w base v xs) : v.oneCell' = true := by
 obtain ⟨A, c, rfl⟩ := h.shape
 rfl
end Go.Proofs.YthdjgebbjogmiaaDoor

namespace Go.Proofs.YthdjgebbjogmiaaDoor
open Go Go.RowKit

/-- The hash of bytes. -/
def shaF (b : List Int) : List Int := outF (shaW kT iv b)
theorem shaF_len (b : List Int) : (shaF b).length = 32 := by
 unfold shaF
 rw [outF_len, shaW_len _ _ _ iv_len]
theorem shaF_bytes (b : List Int) : Bytes (shaF b) := outF_bytes _
def textF (tag : List Int) (rows : List (List Int)) : List Int := netF tag ++ netsF rows
def taggedF (tag : List Int) (rows : List (List Int)) : List Int := shaF (textF tag rows)
/-- Its first sixteen bytes. -/
def shortF (tag : List Int) (rows : List (List Int)) : List Int := (taggedF tag rows).take 16
theorem taggedF_len (tag : List Int) (rows : List (List Int)) : (taggedF tag rows).length = 32 := shaF_len _
theorem shortF_len (tag : List Int) (rows : List (List Int)) : (shortF tag rows).length = 16 := by
 unfold shortF
 rw [List.length_take, taggedF_len]
 rfl
theorem taggedF_bytes (tag : List Int) (rows : List (List Int)) : Bytes (taggedF tag rows) := shaF_bytes _
theorem shortF_bytes (tag : List Int) (rows : List (List Int)) : Bytes (shortF tag rows) := fun x hx => taggedF_bytes tag rows x (List.mem_of_mem_take hx)
theorem zero_key : (Tryd.prog.info? 23).map (·.zero) = some (some (.agg (u8s (List.replicate 16 0)).toArray)) := by kernel_rfl

set_option maxRecDepth 100000
set_option maxHeartbeats 4000000
theorem Sum_any (v : Value) (b : List Int) (w : World) (hv : Bs w w.heap.size v b) (hb : Bytes b) (hn : b.length ≤ 70368744177664) :
 Calls Tryd.prog 93 #[v] w fun e w' => e = .returned (.agg (u8s (shaF b)).toArray) ∧ Below w.heap.size w w' := by
 have HV := hide hv
 have HBY := hide hb
 obtain ⟨RES, HRES⟩ : ∃ x, Hid (shaF b = x) := ⟨_, hide rfl⟩
 have HRL := hide (show RES.length = 32 by rw [← HRES.out]; exact shaF_len _)
 have HST := hide (show outF (blocksN kT (blocksN kT iv b (b.length / 64)) (b.drop (64 * (b.length / 64)) ++ tailF b.length) (((b.drop (64 * (b.length / 64))).length + 72) / 64)) = RES by rw [← shaW_steps]; exact HRES.out)
 have HHL := hide (show (blocksN kT iv b (b.length / 64)).length = 8 from blocksN_len _ _ _ iv_len _)
 have HDL := hide (show (b.drop (64 * (b.length / 64))).length = b.length % 64 by rw [List.length_drop]; omega)
 have HDB := hide (show Bytes (b.drop (64 * (b.length / 64))) from fun x hx => hb x (List.mem_of_mem_drop hx))
 obtain ⟨IV, HIV⟩ : ∃ x, Hid (iv = x) := ⟨_, hide rfl⟩
 have HIL := hide (show IV.length = 8 by rw [← HIV.out]; exact iv_len)
 rw [HIV.out] at HST HHL
 obtain ⟨H1, HH1⟩ : ∃ x, Hid (blocksN kT IV b (b.length / 64) = x) := ⟨_, hide rfl⟩
 obtain ⟨D, HD⟩ : ∃ x, Hid (b.drop (64 * (b.length / 64)) = x) := ⟨_, hide rfl⟩
 rw [HH1.out, HD.out] at HST
 rw [HH1.out] at HHL
 rw [HD.out] at HDL HDB
 rw [HRES.out]
 clear hv hb
 go_enter Tryd.func93, Tryd.ntmps93
 obtain ⟨gr, hgr⟩ : ∃ n, w.heap.size = n := ⟨_, rfl⟩
 go_wp2_with (refine wpList_alloc_blk rfl 25 rfl _ zero_hash ?_; intro w1 hb1 hw1 hs1; have HR1 := hide hb1; have HB1 := hide hw1; have hz1 := hw1.size; clear hb1 hw1)
 refine (New_any _).mono ?_
 rintro e w2 ⟨g, rfl, hg, hz2, hs2, hb2⟩
 rw [HIV.out] at hs2
 have HS2 := hide hs2
 have HB2 := hide (HB1.out.trans (hb2.mono hz1))
 have HR2 := hide (HR1.out.below hb2 (by omega))
 clear hs2 hb2
 go_wp2_with fail
 refine (Write_new IV b g v _ HIL.out HS2.out ((HV.out.below HB2.out (Nat.le_refl _)).more (by omega)) HBY.out hn).mono ?_
 rintro e w3 ⟨rfl, lv, hs3, hf3, hb3⟩
 rw [HH1.out] at hs3
 rw [HD.out] at hf3
 have HS3 := hide hs3
 have HF3 := hide hf3
 have HB3 := hide (HB2.out.trans (hb3.mono (by omega)))
 have HR3 := hide (HR2.out.below hb3 (by omega))
 have hz3 := hb3.size
 clear hs3 hf3 hb3
 go_wp2_with fail
 refine (SumM_any H1 D b.length g lv _ HHL.out HS3.out HF3.out HDB.out (by rw [HDL.out]; omega) (by rw [HDL.out]; omega) hn).mono ?_
 rintro e w4 ⟨rfl, hb4⟩
 rw [HST.out]
 have HB4 := hide (HB3.out.trans (hb4.mono (by omega)))
 have HR4 := hide (HR3.out.below hb4 HR3.out.lt)
 have hz4 := hb4.size
 clear hb4
 go_wp2_with (refine wpList_store_blk rfl 25 _ _ rfl gr 0 (u8s RES) rfl rfl _ _ (by rw [← hgr]; exact HR4.out) (by rw [u8s_len, u8s_len, HRL.out]; simp) (by rw [u8s_len, HRL.out]; exact size_hash) (u8s_one _) ?_; intro w7 hb7 hg7 hs7; rw [lset_all _ _ (by rw [u8s_len, u8s_len, HRL.out]; rfl)] at hb7; have HR7 := hide hb7; have HB7 := hide (HB4.out.grown hg7 (by omega) (by intro k hk; simp at hk; omega)); clear hb7 hg7)
 refine bodyPost_ret (v := .agg (u8s RES).toArray) (results_cell_row rfl _ _ gr 25 _ (0, 0) _ rfl HR7.out Tryd.underlying25 rfl (by rw [List.size_toArray, u8s_len, HRL.out]; exact size_hash)) rfl ?_
 exact ⟨rfl, HB7.out⟩
theorem Text_any (s : ByteArray) (v : Value) (rows : List (List Int)) (w : World) (hv : RowsB w w.heap.size v rows) (hb : ∀ x ∈ rows, Bytes x) (hl : ∀ x ∈ rows, x.length ≤ 1000000) (hn : rows.length ≤ 1000) (hs : s.size ≤ 1000) (ht : Tab w w.heap.size) :
 Calls Tryd.prog 94 #[.string s, v] w fun e w' => ∃ v', e = .returned v' ∧ RowB w' w.heap.size v' (textF (strB s) rows) ∧ Below w.heap.size w w' := by
 have HV := hide hv
 have HBR := hide hb
 have HLR := hide hl
 have HT := hide ht
 have HNL := hide (show (netF (strB s)).length ≤ 1000021 from netF_len _ (by rw [strB_len]; omega))
 have HSL := hide (show (netsF rows).length ≤ 1000021000 by
  have := netsF_len rows hl rows.length (Nat.le_refl _)
  rw [List.take_length] at this
  have : rows.length * 1000021 ≤ 1000 * 1000021 := Nat.mul_le_mul_right _ hn
  omega)
 have HTX := hide (show netF (strB s) ++ netsF rows = textF (strB s) rows from rfl)
 have HNB := hide (netsF_bytes rows hb)
 obtain ⟨TX, HTT⟩ : ∃ x, Hid (textF (strB s) rows = x) := ⟨_, hide rfl⟩
 rw [HTT.out] at HTX ⊢
 clear hv hb hl ht
 go_enter Tryd.func94, Tryd.ntmps94
 go_wp2_with (refine wpList_to_bytes rfl _ rfl s rfl (by unfold maxLen; omega) ?_; intro v6 w1 ho1 hb1; have HO1 := hide ho1; have HB1 := hide hb1; have hz1 := hb1.size; clear ho1 hb1)
 refine (Net_any _ (strB s) _ HO1.out.reads (strB_bytes s) (by rw [strB_len]; omega) ((HT.out.below HB1.out (Nat.le_refl _)).more hz1)).mono ?_
 rintro e w2 ⟨v7, rfl, ho2, hb2⟩
 have HO2 := hide (ho2.more hz1)
 have HB2 := hide (HB1.out.trans (hb2.mono hz1))
 have hz2 := HB2.out.size
 clear ho2 hb2
 go_wp2_with fail
 refine (Nets_any _ rows _ ((HV.out.below HB2.out (Nat.le_refl _)).more hz2) HBR.out HLR.out (by omega) ((HT.out.below HB2.out (Nat.le_refl _)).more hz2)).mono ?_
 rintro e w3 ⟨v9, rfl, ho3, hb3⟩
 have HO3 := hide ho3.reads
 have HO4 := hide (HO2.out.keptB hb3)
 have HB3 := hide (HB2.out.trans (hb3.mono hz2))
 have hz3 := HB3.out.size
 clear ho3 hb3 HO2 HB2
 go_wp2_with (at_builtin; refine wpList_append_B rfl _ _ rfl w.heap.size v7 _ rfl HO4.out _ _ (netsF rows) rfl HO3.out HNB.out (by have := HNL.out; have := HSL.out; omega) hz3 ?_; intro v10 w4 ho4 hg4; rw [HTX.out] at ho4; have HO5 := hide ho4; have HB4 := hide (HB3.out.grown hg4 hz3 (fun k hk => (HO4.out.base_ k hk).1)); clear ho4 hg4)
 go_ret
 exact ⟨_, rfl, HO5.out, HB4.out⟩
theorem Tagged_any (s : ByteArray) (v : Value) (rows : List (List Int)) (w : World) (hv : RowsB w w.heap.size v rows) (hb : ∀ x ∈ rows, Bytes x) (hl : ∀ x ∈ rows, x.length ≤ 1000000) (hn : rows.length ≤ 1000) (hs : s.size ≤ 1000) (ht : Tab w w.heap.size) :
 Calls Tryd.prog 82 #[.string s, v] w fun e w' => e = .returned (.agg (u8s (taggedF (strB s) rows)).toArray) ∧ Below w.heap.size w w' := by
 have HV := hide hv
 have HBR := hide hb
 have HLR := hide hl
 have HT := hide ht
 obtain ⟨TX, HTT⟩ : ∃ x, Hid (textF (strB s) rows = x) := ⟨_, hide rfl⟩
 have HTB := hide (show Bytes TX by rw [← HTT.out]; exact (netF_bytes (strB_bytes s)).app (netsF_bytes rows hb))
 have HTL := hide (show TX.length ≤ 70368744177664 by
  rw [← HTT.out, textF, List.length_append]
  have h1 : (netF (strB s)).length ≤ 1000021 := netF_len _ (by rw [strB_len]; omega)
  have := netsF_len rows hl rows.length (Nat.le_refl _)
  rw [List.take_length] at this
  have : rows.length * 1000021 ≤ 1000 * 1000021 := Nat.mul_le_mul_right _ hn
  omega)
 obtain ⟨RES, HRES⟩ : ∃ x, Hid (taggedF (strB s) rows = x) := ⟨_, hide rfl⟩
 have HRS := hide (show shaF TX = RES by rw [← HRES.out, ← HTT.out]; rfl)
 have HRL := hide (show RES.length = 32 by rw [← HRS.out]; exact shaF_len _)
 rw [HRES.out]
 clear hv hb hl ht
 go_enter Tryd.func82, Tryd.ntmps82
 obtain ⟨gr, hgr⟩ : ∃ n, w.heap.size = n := ⟨_, rfl⟩
 go_wp2_with (refine wpList_alloc_blk rfl 25 rfl _ zero_hash ?_; intro w1 hb1 hw1 hs1; have HR1 := hide hb1; have HB1 := hide hw1; have hz1 := hw1.size; clear hb1 hw1)
 refine (Text_any s v rows _ ((HV.out.below HB1.out (Nat.le_refl _)).more hz1) HBR.out HLR.out hn hs ((HT.out.below HB1.out (Nat.le_refl _)).more hz1)).mono ?_
 rintro e w2 ⟨v7, rfl, ho2, hb2⟩
 rw [HTT.out] at ho2
 have HO2 := hide ho2.reads
 have HB2 := hide (HB1.out.trans (hb2.mono hz1))
 have HR2 := hide (HR1.out.below hb2 (by omega))
 have hz2 := HB2.out.size
 clear ho2 hb2
 go_wp2_with fail
 refine (Sum_any v7 TX _ HO2.out HTB.out HTL.out).mono ?_
 rintro e w3 ⟨rfl, hb3⟩
 rw [HRS.out]
 have HB3 := hide (HB2.out.trans (hb3.mono hz2))
 have HR3 := hide (HR2.out.below hb3 HR2.out.lt)
 clear hb3
 go_wp2_with (refine wpList_store_blk rfl 25 _ _ rfl gr 0 (u8s RES) rfl rfl _ _ (by rw [← hgr]; exact HR3.out) (by rw [u8s_len, u8s_len, HRL.out]; simp) (by rw [u8s_len, HRL.out]; exact size_hash) (u8s_one _) ?_; intro w7 hb7 hg7 hs7; rw [lset_all _ _ (by rw [u8s_len, u8s_len, HRL.out]; rfl)] at hb7; have HR7 := hide hb7; have HB7 := hide (HB3.out.grown hg7 (by have := HB3.out.size; omega) (by intro k hk; simp at hk; omega)); clear hb7 hg7)
 refine bodyPost_ret (v := .agg (u8s RES).toArray) (results_cell_row rfl _ _ gr 25 _ (0, 0) _ rfl HR7.out Tryd.underlying25 rfl (by rw [List.size_toArray, u8s_len, HRL.out]; exact size_hash)) rfl ?_
 exact ⟨rfl, HB7.out⟩
theorem wpList_arrayAt {ops : Array Oper} {rest : List Oper} {o : Oper} {a : Act} {w : World} {Q : Exit → Act → World → Prop} (hgd : o.guard = none) (arr : TypeId) (x : Operand) (ho : o.op = .sliceToArrayPointer arr x) (e : TypeId) (n : Nat) (ad : Option Addr) (l c : Nat) (hx : a.eval x = .slice ad l c) (ht : Tryd.prog.underlying arr = some (.array n e)) (hn : n ≤ l)
 (h : wpList Tryd.prog ops Q rest (a.put o.dst (.pointer ad)) w) : wpList Tryd.prog ops Q (o :: rest) a w :=
 wpList_plain hgd fun _ hK => wp_value _ (exec_arrayAt arr x ho e n ad l c hx ht hn) (hK _ _ h)
theorem Short_any (s : ByteArray) (v : Value) (rows : List (List Int)) (w : World) (hv : RowsB w w.heap.size v rows) (hb : ∀ x ∈ rows, Bytes x) (hl : ∀ x ∈ rows, x.length ≤ 1000000) (hn : rows.length ≤ 1000) (hs : s.size ≤ 1000) (ht : Tab w w.heap.size) :
 Calls Tryd.prog 68 #[.string s, v] w fun e w' => e = .returned (.agg (u8s (shortF (strB s) rows)).toArray) ∧ Below w.heap.size w w' := by
 have HV := hide hv
 have HBR := hide hb
 have HLR := hide hl
 have HT := hide ht
 obtain ⟨RES, HRES⟩ : ∃ x, Hid (taggedF (strB s) rows = x) := ⟨_, hide rfl⟩
 have HRL := hide (show RES.length = 32 by rw [← HRES.out]; exact taggedF_len _ _)
 obtain ⟨SH, HSH⟩ : ∃ x, Hid (shortF (strB s) rows = x) := ⟨_, hide rfl⟩
 have HSL := hide (show SH.length = 16 by rw [← HSH.out]; exact shortF_len _ _)
 have HST := hide (show ∀ j u, (u8s SH)[j]? = some u → (u8s RES)[0 + j]? = some u by
  intro j u hu
  have hj := (List.getElem?_eq_some_iff.1 hu).1
  rw [u8s_len, HSL.out] at hj
  rw [← hu, Nat.zero_add, ← HSH.out, shortF, HRES.out]
  unfold u8s
  rw [List.getElem?_map, List.getElem?_map, List.getElem?_take_of_lt hj])
 rw [HSH.out]
 clear hv hb hl ht
 go_enter Tryd.func68, Tryd.ntmps68
 obtain ⟨gr, hgr⟩ : ∃ n, w.heap.size = n := ⟨_, rfl⟩
 go_wp2_with (refine wpList_alloc_blk rfl 23 rfl _ zero_key ?_; intro w1 hb1 hw1 hs1; have HR1 := hide hb1; have HB1 := hide hw1; have hz1 := hw1.size; clear hb1 hw1)
 refine (Tagged_any s v rows _ ((HV.out.below HB1.out (Nat.le_refl _)).more hz1) HBR.out HLR.out hn hs ((HT.out.below HB1.out (Nat.le_refl _)).more hz1)).mono ?_
 rintro e w2 ⟨rfl, hb2⟩
 rw [HRES.out]
 have HB2 := hide (HB1.out.trans (hb2.mono hz1))
 have HR2 := hide (HR1.out.below hb2 (by omega))
 have hz2 := HB2.out.size
 clear hb2
 obtain ⟨g5, hg5⟩ : ∃ n, w2.heap.size = n := ⟨_, rfl⟩
 have hg5r : gr < g5 := by have := HR2.out.lt; omega
 go_wp2_with (first
  | (refine wpList_alloc_blk rfl 25 rfl _ zero_hash ?_; intro w3 hb3 hw3 hs3; rw [hg5] at hb3 ⊢; have HX3 := hide hb3; have HB3 := hide (HB2.out.trans (hw3.mono hz2)); have HR3 := hide (HR2.out.below hw3 HR2.out.lt); clear hb3 hw3 HR2)
  | (refine wpList_store_blk rfl 25 _ _ rfl g5 0 (u8s RES) rfl rfl _ _ HX3.out (by rw [u8s_len, u8s_len, HRL.out]; simp) (by rw [u8s_len, HRL.out]; exact size_hash) (u8s_one _) ?_; intro w4 hb4 hg4 hs4; rw [lset_all _ _ (by rw [u8s_len, u8s_len, HRL.out]; rfl)] at hb4; have HX4 := hide hb4; have HR4 := hide (HR3.out.grown hg4 (by intro he; injection he with he; omega)); have HB4 := hide (HB3.out.grown hg4 (by have := HB3.out.size; omega) (by intro k hk; simp at hk; omega)); clear hb4 hg4 HX3 HR3)
  | (refine wpList_arrayAt rfl _ _ rfl 5 16 _ 16 _ rfl Tryd.underlying23 (Nat.le_refl _) ?_)
  | (refine wpList_load_mid rfl 23 _ rfl g5 0 rfl (u8s SH) _ (blk_range HX4.out 0 _ HST.out) Tryd.underlying23 rfl (by rw [u8s_len, HSL.out]; exact size_key) ?_)
  | (refine wpList_store_blk rfl 23 _ _ rfl gr 0 (u8s SH) rfl rfl _ _ (by rw [← hgr]; exact HR4.out) (by rw [u8s_len, u8s_len, HSL.out]; simp) (by rw [u8s_len, HSL.out]; exact size_key) (u8s_one _) ?_; intro w7 hb7 hg7 hs7; rw [lset_all _ _ (by rw [u8s_len, u8s_len, HSL.out]; rfl)] at hb7; have HR7 := hide hb7; have HB7 := hide (HB4.out.grown hg7 (by have := HB4.out.size; omega) (by intro k hk; simp at hk; omega)); clear hb7 hg7))
 refine bodyPost_ret (v := .agg (u8s SH).toArray) (results_cell_row rfl _ _ gr 23 _ (0, 0) _ rfl HR7.out Tryd.underlying23 rfl (by rw [List.size_toArray, u8s_len, HSL.out]; exact size_key)) rfl ?_
 exact ⟨rfl, HB7.out⟩
end Go.Proofs.YthdjgebbjogmiaaDoor
