/- aumbry/dirs.child: bytes with the key of a name, to and fro. Condition: at most sixteen thousand bytes; the table of powers of ten stands.
slices.Clone of bytes: the same in memory of its own. Condition: at most a million.
What operations yield, for fields and elements of any type. No condition. -/
import Derived.Test.YthdjgebbjogmiaaDoorPackLaw
import Derived.Test.YthdjgebbjogmiaaDoorJoin17
import Derived.Test.YthdjgebbjogmiaaDoorStream
import Derived.Test.YthdjgebbjogmiaaDoorJoin2
import Derived.Test.YthdjgebbjogmiaaDoorJoin3
import Derived.Test.YthdjgebbjogmiaaDoorJoin8
import Derived.Test.YthdjgebbjogmiaaDoorJoin4
import Derived.IntWalk
set_option linter.unusedVariables false
set_option linter.unusedSimpArgs false
namespace Go.Proofs.YthdjgebbjogmiaaDoor
open Go Go.RowKit
set_option linter.unusedVariables false
set_option maxRecDepth 100000
set_option maxHeartbeats 4000000
theorem kid_any (c : CapD) (lit : Value) (nm b : List Int) (v : Value) (w : World) (hc : c.Wf) (hl : lit.oneCell' = true) (hnb : Bytes nm) (hnl : nm.length ≤ 1000000) (hv : Bs w w.heap.size v b) (hb : Bytes b) (hbl : b.length ≤ 16000) (ht : Tab w w.heap.size) :
 Calls Tryd.prog 60 #[capV c lit, .string (strOfNums nm), v] w fun e w' => ∃ v', e = .returned v' ∧ Own8 w' w.heap.size v' (kidF c.key nm b) ∧ Below w.heap.size w w' := by
 have HC := hide hc
 have HV := hide hv
 have HBB := hide hb
 have HT := hide ht
 obtain ⟨NM, HNM⟩ : ∃ s, Hid (strOfNums nm = s) := ⟨_, hide rfl⟩
 have HNS := hide (show NM.size ≤ maxLen by rw [← HNM.out, strOfNums_size]; unfold maxLen; omega)
 have HNB := hide (show strB NM = nm by rw [← HNM.out]; exact strB_of hnb)
 obtain ⟨key, HK⟩ : ∃ k, Hid (c.key = k) := ⟨_, hide rfl⟩
 have HKS := hide (show key.length = 16 ∧ Bytes key by rw [← HK.out]; exact ⟨hc.keyL, hc.keyB⟩)
 have HRB := hide (show ∀ x ∈ [key, nm], Bytes x from fun x hx => by simp at hx; rcases hx with rfl | rfl; exact HKS.out.2; exact hnb)
 have HRL := hide (show ∀ x ∈ [key, nm], x.length ≤ 1000000 from fun x hx => by simp at hx; rcases hx with rfl | rfl; have := HKS.out.1; omega; exact hnl)
 obtain ⟨SK, HSK⟩ : ∃ x, Hid (shortF (strB tChild) [key, nm] = x) := ⟨_, hide rfl⟩
 have HSKL := hide (show SK.length = 16 ∧ Bytes SK by rw [← HSK.out]; exact ⟨shortF_len _ _, shortF_bytes _ _⟩)
 have HRES := hide (show streamF boxTab (ExpandF SK) (atF 0) b = kidF c.key nm b by rw [HK.out]; unfold kidF; rw [HSK.out]; rfl)
 rw [HNM.out]
 rw [← HRES.out]
 obtain ⟨RES, HR2⟩ : ∃ x, Hid (streamF boxTab (ExpandF SK) (atF 0) b = x) := ⟨_, hide rfl⟩
 have HSTR := hide (fun (w' : World) (hb' : Bs w' w'.heap.size v b) => (Stream_any SK b 0 v w' HSKL.out.1 HSKL.out.2 (by omega) hb' hbl HBB.out))
 rw [HR2.out] at HSTR ⊢
 clear HRES HR2 hv hb hnb ht hc
 obtain ⟨g3, HG3⟩ : ∃ k, Hid (w.heap.size = k) := ⟨_, hide rfl⟩
 go_enter Tryd.func60, Tryd.ntmps60
 go_wp2_with (first
  | (refine wpList_cap_new (c := c) (lit := lit) _ rfl rfl rfl HC.out.keyL HC.out.fpL hl ?_; intro w1 hb1 hw1 hs1; rw [HG3.out] at hb1 hs1; try rw [HG3.out]; have H3 := hide hb1; have HB := hide hw1; have HS1 := hide hs1; clear hb1 hw1 hs1)
  | (refine wpList_to_bytes rfl _ rfl NM rfl HNS.out ?_; intro v2 w2 hv2 hw2; rw [HNB.out] at hv2; have HV2 := hide hv2; replace H3 := hide (H3.out.below hw2 H3.out.lt); replace HB := hide (HB.out.trans (hw2.mono HB.out.size)); clear hv2 hw2)
  | (refine wpList_rows2 rfl _ _ rfl (.slice (some ⟨g3, 1, none⟩) 16 16) v2 rfl rfl rfl (cells_one_ (bs_one_ HV2.out.reads)) ?_; intro w4 hb4 hw4; have hz4 := hw4.size; have HROW := hide (rows_two (x := key) hb4 (by rw [← HK.out]; exact ((H3.out.below hw4 H3.out.lt).keyRow (Nat.lt_of_lt_of_le H3.out.lt hz4))) ((HV2.out.reads.below hw4 (Nat.le_refl _)).more hz4)); replace HB := hide (HB.out.trans (hw4.mono HB.out.size)); clear hb4 hw4 HV2))
 refine (Short_any tChild _ [key, nm] _ HROW.out HRB.out HRL.out (by simp) (by decide) ((HT.out.below HB.out (Nat.le_refl _)).more HB.out.size)).mono ?_
 rintro e w5 ⟨rfl, hb5⟩
 rw [HSK.out]
 replace HB := hide (HB.out.trans (hb5.mono HB.out.size))
 clear hb5 HROW H3
 go_wp2_with fail
 refine (HSTR.out _ ((HV.out.below HB.out (Nat.le_refl _)).more HB.out.size)).mono ?_
 rintro e w6 ⟨v6, rfl, ho6, hb6⟩
 have HO := hide (ho6.more HB.out.size)
 replace HB := hide (HB.out.trans (hb6.mono HB.out.size))
 clear ho6 hb6
 go_wp2_with fail
 go_ret
 exact ⟨_, rfl, HO.out, HB.out⟩
end Go.Proofs.YthdjgebbjogmiaaDoor

namespace Go.Proofs.YthdjgebbjogmiaaDoor
open Go Go.RowKit
set_option linter.unusedVariables false
set_option linter.unusedSimpArgs false
set_option maxRecDepth 100000
section
variable {ops : Array Oper} {rest : List Oper} {o : Oper} {a : Act} {w : World} {Q : Exit → Act → World → Prop}
theorem exec_nil_no (x y : Operand) (t' : TypeId) (ho : o.op = .binOp .eql 26 x y t') (ad : Addr) (n c : Nat) (hx : a.eval x = .slice (some ad) n c) (hy : a.eval y = .slice none 0 0) : (execOp a.eval o).run Tryd.prog w = .ok (.value (.bool false)) w := by
 unfold execOp
 simp only [ho, hx, hy]
 kernel_rfl
theorem exec_nil_yes (x y : Operand) (t' : TypeId) (ho : o.op = .binOp .eql 26 x y t') (n c : Nat) (hx : a.eval x = .slice none n c) (hy : a.eval y = .slice none 0 0) : (execOp a.eval o).run Tryd.prog w = .ok (.value (.bool true)) w := by
 unfold execOp
 simp only [ho, hx, hy]
 kernel_rfl
theorem run_lit0 (ho : o.op = .buildSlice 26 0 #[]) : (execOp a.eval o).run Tryd.prog w = .ok (.value (.slice (some ⟨w.heap.size, 0, none⟩) 0 0)) (w.alloc (.cells #[] 5)) := by
 unfold execOp
 simp only [ho]
 kernel_rfl
theorem wpList_lit0 (hgd : o.guard = none) (ho : o.op = .buildSlice 26 0 #[])
 (h : ∀ w', Blk w' w.heap.size 5 (u8s []) → Below w.heap.size w w' → wpList Tryd.prog ops Q rest (a.put o.dst (.slice (some ⟨w.heap.size, 0, none⟩) 0 0)) w') : wpList Tryd.prog ops Q (o :: rest) a w :=
 wpList_plain hgd fun K hK => by
  unfold Oper.wp
  rw [run_lit0 ho]
  exact hK _ _ (h _ (Blk.new w 5 []) ((Below.refl _ _).alloc (Nat.le_refl _) _))
end
set_option maxHeartbeats 4000000
theorem clone_any (v : Value) (xs : List Int) (w : World) (hv : Bs w w.heap.size v xs) (hx : Bytes xs) (hn : xs.length ≤ 1000000) :
 Calls Tryd.prog 67 #[v] w fun e w' => ∃ v', e = .returned v' ∧ RowB w' w.heap.size v' xs ∧ Below w.heap.size w w' := by
 have HV := hide hv
 have HX := hide hx
 obtain ⟨A, c, rfl, h1, h2, h3⟩ := hv.open_
 have HBe := hide (Below.refl w.heap.size w)
 rcases A with _ | ad
 · have h0 : xs = [] := by
    rcases xs with _ | ⟨a, xs⟩
    · rfl
    · obtain ⟨b, o, e, _⟩ := h3 (by simp)
      cases e
   subst h0
   clear h3 hv hx
   go_enter Tryd.func67, Tryd.ntmps67
   go_wp2_with (refine wpList_val_ rfl (exec_nil_yes _ _ _ rfl _ _ rfl rfl) ?_)
   go_ret
   exact ⟨_, rfl, RowB.nil_ _ _, HBe.out⟩
 obtain ⟨n, HN⟩ : ∃ k, Hid (xs.length = k) := ⟨_, hide rfl⟩
 rw [HN.out] at HV h1 hn ⊢
 clear h3 hv hx
 go_enter Tryd.func67, Tryd.ntmps67
 have hx0 : Bytes [] := fun z hz => by cases hz
 go_wp2_with (first
  | (refine wpList_val_ rfl (exec_nil_no _ _ _ rfl ad _ _ rfl rfl) ?_)
  | (refine wpList_lit0 rfl rfl ?_; intro w1 hb1 hw1; have H1 := hide (RowB.of_blk (base := w.heap.size) hb1 (Nat.le_refl _) hx0 (by unfold maxLen; simp)); have HV1 := hide (HV.out.below hw1 (Nat.le_refl _)); have HB1 := hide hw1; clear hb1 hw1)
  | (at_builtin; refine wpList_append_B rfl _ _ rfl w.heap.size (.slice (some ⟨w.heap.size, 0, none⟩) 0 0) [] rfl H1.out _ (.slice (some ad) n c) xs rfl HV1.out HX.out (by rw [HN.out, List.length_nil]; omega) HB1.out.size ?_; intro v2 w2 ho2 hg2; rw [List.nil_append] at ho2; have HO2 := hide ho2; have HB2 := hide (HB1.out.grown hg2 HB1.out.size (fun k hk => (H1.out.base_ k hk).1)); clear ho2 hg2))
 go_ret
 exact ⟨_, rfl, HO2.out, HB2.out⟩
end Go.Proofs.YthdjgebbjogmiaaDoor

namespace Go.Proofs.YthdjgebbjogmiaaDoor
open Go Go.RowKit
set_option maxRecDepth 100000
/-- Field k of struct type T lies 'off' cells behind the struct's beginning. -/
def fieldIs (P : Program) (T : TypeId) (k off : Nat) : Bool :=
 match P.underlying T with
 | some (.struct fs) => match fs[k]? with
  | some f => f.offset == off && (match P.info? f.type with | some i => i.size != 0 | none => false)
  | none => false
 | _ => false
/-- An element of slice type T takes 'size' cells. -/
def elemIs (P : Program) (T : TypeId) (size : Nat) : Bool :=
 match P.underlying T with
 | some (.slice e) => (match P.info? e with | some i => i.size == size | none => false)
 | _ => false
section
variable {P : Program} {o : Oper} {a : Act} {w : World}
theorem exec_fieldG (T : TypeId) (x : Operand) (k off : Nat) (ho : o.op = .fieldAddr T x k) (g at_ : Nat) (hx : a.eval x = .pointer (some ⟨g, at_, none⟩)) (hf : fieldIs P T k off = true) (q : Nat) (hq : q = at_ + off) :
 (execOp a.eval o).run P w = .ok (.value (.pointer (some ⟨g, q, none⟩))) w := by
 subst hq
 unfold fieldIs at hf
 split at hf
 case h_2 => cases hf
 rename_i fs hu
 split at hf
 case h_2 => cases hf
 rename_i f hk
 rw [Bool.and_eq_true] at hf
 obtain ⟨h1, h2⟩ := hf
 have h1 : f.offset = off := by simpa using h1
 rcases hi : P.info? f.type with _ | i
 · rw [hi] at h2; cases h2
 rw [hi] at h2
 have h2 : i.size ≠ 0 := by simpa using h2
 subst h1
 unfold execOp
 simp only [ho, hx, Instr.fieldAt, Sem.run_bind, run_underlying hu, Result.andThen_ok]
 simp [hk, Instr.sureAddr, fieldPlace, sizeOf, typeInfo, hi, h2, Addr.add]
theorem exec_indexG (T : TypeId) (x y : Operand) (ho : o.op = .indexAddr T x y) (A : Option Addr) (n c b off size j : Nat) (hx : a.eval x = .slice A n c) (hy : a.eval y = .int .i64 (j : Int)) (hA : A = some ⟨b, off, none⟩) (hj : j < n) (hs : elemIs P T size = true) (q : Nat) (hq : q = off + j * size) :
 (execOp a.eval o).run P w = .ok (.value (.pointer (some ⟨b, q, none⟩))) w := by
 subst hA hq
 unfold elemIs at hs
 split at hs
 case h_2 => cases hs
 rename_i e hu
 rcases hi : P.info? e with _ | i
 · rw [hi] at hs; cases hs
 rw [hi] at hs
 have hs : i.size = size := by simpa using hs
 subst hs
 have h0 : (0 : Int) ≤ (j : Int) := by omega
 have h1 : (j : Int) < (n : Int) := by omega
 unfold execOp
 simp only [ho, hx, hy, Instr.indexAt, asIntOf, Sem.run_bind, Sem.run_pure, run_underlying hu, Result.andThen_ok]
 simp [h0, h1, hj, sizeOf, typeInfo, hi, Addr.add]
theorem exec_notG (x : Operand) (T : TypeId) (ho : o.op = .unOp .not T x) (b : Bool) (hx : a.eval x = .bool b) (r : Bool) (hr : (!b) = r) : (execOp a.eval o).run P w = .ok (.value (.bool r)) w := by
 subst hr
 unfold execOp
 simp only [ho, hx]
 go_simp
theorem exec_addG (x y : Operand) (t' : TypeId) (ho : o.op = .binOp .add 3 x y t') (p q z : Int) (hx : a.eval x = .int .i64 p) (hy : a.eval y = .int .i64 q) (hz : p + q = z) (hb : -9223372036854775808 ≤ p + q ∧ p + q ≤ 9223372036854775807) : (execOp a.eval o).run Tryd.prog w = .ok (.value (.int .i64 z)) w := by
 subst hz
 obtain ⟨h1, h2⟩ := hb
 unfold execOp
 simp only [ho, hx, hy]
 go_simp
 exact IntWalk.i64_in _ (by omega)
theorem exec_pickG (c x y : Operand) (ho : o.op = .pick c x y) (b : Bool) (hc : a.eval c = .bool b) (v : Value) (hv : (if b = true then a.eval x else a.eval y) = v) : (execOp a.eval o).run P w = .ok (.value v) w := by
 unfold execOp
 simp only [ho, hc, asBool, Sem.run_bind, Sem.run_pure, Result.andThen_ok]
 subst hv
 cases b <;> rfl
theorem exec_buildG (T : TypeId) (parts : Array (Nat × Operand)) (ho : o.op = .build T parts) (cs : List Value) (hb : P.built T (parts.map fun (i, x) => (i, a.eval x)).toList = some cs.toArray) : (execOp a.eval o).run P w = .ok (.value (.agg cs.toArray)) w := by
 unfold execOp
 simp only [ho, Sem.run_bind, run_build w T _ _ hb, Result.andThen_ok, Sem.run_pure]
/-- The walk of a region that draws its order, of reads and calls of fixed values (shut: it does not unfold by itself). -/
structure QW (P : Program) (ops : Array Oper) (C : World → Prop) (Q : Act → Prop) (rest : List Oper) (a : Act) : Prop where
 out : wpQuiet P ops C Q rest a
section
variable {ops : Array Oper} {C : World → Prop} {Q : Act → Prop} {rest : List Oper}
theorem qw_val {v : Value} (d : Nat) (hd : o.dst = some d) (hw : Region.wanted o (yielded ops a.tmps) = true) (h0 : ∀ w', C w' → (execOp a.eval o).run P w' = .ok (.value v) w') (h : QW P ops C Q rest (a.put (some d) v)) : QW P ops C Q (o :: rest) a :=
 ⟨quiet_val d hd hw h0 h.out⟩
theorem qw_call {v : Value} (d : Nat) (hd : o.dst = some d) (hw : Region.wanted o (yielded ops a.tmps) = true) (f : Nat) (args : Array Value) (h0 : ∀ w', (execOp a.eval o).run P w' = .ok (.enter f args) w')
 (hc : ∀ w', C w' → Calls P f args w' fun e w'' => e = .returned v ∧ C w'') (h : QW P ops C Q rest (a.put (some d) v)) : QW P ops C Q (o :: rest) a :=
 ⟨quiet_call d hd hw f args h0 hc h.out⟩
theorem qw_skip (d : Nat) (hd : o.dst = some d) (hw : Region.wanted o (yielded ops a.tmps) = false) (h : QW P ops C Q rest (a.put (some d) undef)) : QW P ops C Q (o :: rest) a := by
 refine ⟨?_⟩
 unfold wpQuiet
 rw [if_neg (by rw [hw]; decide), hd]
 exact h.out
theorem qw_nil (h : Q a) : QW P ops C Q [] a := ⟨wpQuiet_nil h⟩
end
theorem wp_region_qw (C : World → Prop) {id : Nat} {Q : Exit → Act → World → Prop} {l : List Oper} (hm : P.follows .mixedOrders = true) (hB : Region.lexB .any l.toArray = true) (hC : C w.drew)
 (h : QW P l.toArray C (fun a' => ∀ w', C w' → Q .normal a' w') l a) : (Code.region id l.toArray true).wp P Q a w :=
 wp_region_quietC C hm hB hC h.out
theorem exec_lss_i64 (x y : Operand) (t t' : TypeId) (ho : o.op = .binOp .lss t x y t') (p q : Int) (hx : a.eval x = .int .i64 p) (hy : a.eval y = .int .i64 q) (r : Bool) (hr : decide (p < q) = r) : (execOp a.eval o).run P w = .ok (.value (.bool r)) w := by
 subst hr
 unfold execOp
 simp only [ho, hx, hy]
 go_simp
theorem exec_gtr_i64 (x y : Operand) (t t' : TypeId) (ho : o.op = .binOp .gtr t x y t') (p q : Int) (hx : a.eval x = .int .i64 p) (hy : a.eval y = .int .i64 q) (r : Bool) (hr : decide (q < p) = r) : (execOp a.eval o).run P w = .ok (.value (.bool r)) w := by
 subst hr
 unfold execOp
 simp only [ho, hx, hy]
 go_simp
theorem exec_geq_i64 (x y : Operand) (t t' : TypeId) (ho : o.op = .binOp .geq t x y t') (p q : Int) (hx : a.eval x = .int .i64 p) (hy : a.eval y = .int .i64 q) (r : Bool) (hr : decide (q ≤ p) = r) : (execOp a.eval o).run P w = .ok (.value (.bool r)) w := by
 subst hr
 unfold execOp
 simp only [ho, hx, hy]
 go_simp
theorem exec_eql_i64 (x y : Operand) (t t' : TypeId) (ho : o.op = .binOp .eql t x y t') (p q : Int) (hx : a.eval x = .int .i64 p) (hy : a.eval y = .int .i64 q) (r : Bool) (hr : (p == q) = r) : (execOp a.eval o).run P w = .ok (.value (.bool r)) w := by
 subst hr
 unfold execOp
 simp only [ho, hx, hy]
 go_simp
theorem exec_neq_i64 (x y : Operand) (t t' : TypeId) (ho : o.op = .binOp .neq t x y t') (p q : Int) (hx : a.eval x = .int .i64 p) (hy : a.eval y = .int .i64 q) (r : Bool) (hr : (p != q) = r) : (execOp a.eval o).run P w = .ok (.value (.bool r)) w := by
 subst hr
 unfold execOp
 simp only [ho, hx, hy]
 go_simp
theorem exec_build1 (T : TypeId) (k0 : Nat) (x0 : Operand) (ho : o.op = .build T #[(k0, x0)]) (u0 : Value) (h0 : a.eval x0 = u0) (cs : List Value) (hb : P.built T [(k0, u0)] = some cs.toArray) : (execOp a.eval o).run P w = .ok (.value (.agg cs.toArray)) w :=
 exec_buildG T _ ho cs (by simp only [List.map_toArray, List.map_cons, List.map_nil, h0]; exact hb)
theorem exec_loadAll (ty : TypeId) (x : Operand) (ho : o.op = .load ty x) (g off : Nat) (hx : a.eval x = .pointer (some ⟨g, off, none⟩)) (d : TypeDesc) (cs : List Value) (hr : w.rangeAt g off cs) (hu : P.underlying ty = some d)
 (hd : d.isRow = true) (hi : (P.info? ty).map (·.size) = some cs.length) : (execOp a.eval o).run P w = .ok (.value (.agg cs.toArray)) w := by
 unfold execOp
 simp only [ho, hx, Instr.loadAt, Instr.sureAddr, Sem.run_bind, Sem.run_pure, Result.andThen_ok, run_loadVar_mid w g off _ _ _ hr hu hd hi]
end
end Go.Proofs.YthdjgebbjogmiaaDoor
