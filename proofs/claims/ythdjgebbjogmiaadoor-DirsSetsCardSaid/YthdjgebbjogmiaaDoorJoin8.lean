/- CanRead, CanWrite, the program's and the reference's. No condition.
Regions that draw their order, whose calls only lay new blocks and always hand back the same value: one walk serves every order; what operations yield. No condition.
Regions that draw their order, whose calls only lay new blocks and always hand back the same value: one walk serves every order. Words of kinds. No condition. -/
import Derived.Test.YthdjgebbjogmiaaDoorCapValid
import Derived.Test.YthdjgebbjogmiaaDoorJoin6
import Derived.Deep.Quiet
import Derived.Test.YthdjgebbjogmiaaDoorCap
set_option linter.unusedVariables false
set_option linter.unusedSimpArgs false
namespace Go.Proofs.YthdjgebbjogmiaaDoor
open Go Go.RowKit
set_option linter.unusedVariables false
set_option maxRecDepth 100000

def readF (c : CapD) : Bool := decide c.Valid && ((c.kind != 2) && ((c.kind != 6) && (c.kind != 9)))
def writeF (c : CapD) : Bool := decide c.Valid && ((c.kind == 4) || (c.kind == 7))

set_option maxHeartbeats 4000000 in
theorem read_any (c : CapD) (lit : Value) (w : World) (hc : CapV c lit) :
 Calls Tryd.prog 51 #[capV c lit] w fun e w' => e = .returned (.bool (readF c)) ∧ Below w.heap.size w w' := by
 have HVA := hide (fun w => Valid_any c lit w hc)
 obtain ⟨h1, h2, A, k, rfl⟩ := hc
 obtain ⟨CV, HCV⟩ : ∃ x, Hid (capV c (.slice A c.lit.length k) = x) := ⟨_, hide rfl⟩
 rw [HCV.out] at HVA ⊢
 have H1 := hide h1
 have H2 := hide h2
 clear h1 h2
 obtain ⟨v, EV⟩ : ∃ x, Hid (decide c.Valid = x) := ⟨_, hide rfl⟩
 rw [EV.out] at HVA
 obtain ⟨b2, e2⟩ : ∃ b, (c.kind != 2) = b := ⟨_, rfl⟩
 obtain ⟨b6, e6⟩ : ∃ b, (c.kind != 6) = b := ⟨_, rfl⟩
 obtain ⟨b9, e9⟩ : ∃ b, (c.kind != 9) = b := ⟨_, rfl⟩
 have HF := hide (show readF c = (v && (b2 && (b6 && b9))) by rw [readF, EV.out, e2, e6, e9])
 go_enter Tryd.func51, Tryd.ntmps51
 go_wp2_with (first
  | go_skip
  | (refine wpList_cap_new _ rfl (HCV.out.symm) rfl H1.out H2.out rfl ?_; intro w1 hb1 hw1 hs1; have HB := hide hb1; have HW := hide hw1; clear hb1 hw1)
  | (refine wpList_cap_int _ rfl _ rfl rfl HB.out _ rfl ?_)
  | (refine wpList_cap_all _ rfl rfl rfl HB.out ?_; rw [HCV.out])
  | (go_at_call 40; refine (HVA.out _).mono ?_; rintro e w2 ⟨rfl, hb2⟩; have hs2 := hb2.size; replace HB := hide (HB.out.below hb2 HB.out.lt); replace HW := hide (HW.out.trans (hb2.mono (by omega))); clear hb2))
 all_goals go_ret
 all_goals refine ⟨?_, HW.out⟩
 all_goals rw [HF.out]
 all_goals refine congrArg Ending.returned (congrArg Value.bool ?_)
 all_goals simp [*]

set_option maxHeartbeats 4000000 in
theorem write_any (c : CapD) (lit : Value) (w : World) (hc : CapV c lit) :
 Calls Tryd.prog 31 #[capV c lit] w fun e w' => e = .returned (.bool (writeF c)) ∧ Below w.heap.size w w' := by
 have HVA := hide (fun w => Valid_any c lit w hc)
 obtain ⟨h1, h2, A, k, rfl⟩ := hc
 obtain ⟨CV, HCV⟩ : ∃ x, Hid (capV c (.slice A c.lit.length k) = x) := ⟨_, hide rfl⟩
 rw [HCV.out] at HVA ⊢
 have H1 := hide h1
 have H2 := hide h2
 clear h1 h2
 obtain ⟨v, EV⟩ : ∃ x, Hid (decide c.Valid = x) := ⟨_, hide rfl⟩
 rw [EV.out] at HVA
 obtain ⟨b4, e4⟩ : ∃ b, (c.kind == 4) = b := ⟨_, rfl⟩
 obtain ⟨b7, e7⟩ : ∃ b, (c.kind == 7) = b := ⟨_, rfl⟩
 have HF := hide (show writeF c = (v && (b4 || b7)) by rw [writeF, EV.out, e4, e7])
 go_enter Tryd.func31, Tryd.ntmps31
 go_wp2_with (first
  | go_skip
  | (refine wpList_cap_new _ rfl (HCV.out.symm) rfl H1.out H2.out rfl ?_; intro w1 hb1 hw1 hs1; have HB := hide hb1; have HW := hide hw1; clear hb1 hw1)
  | (refine wpList_cap_int _ rfl _ rfl rfl HB.out _ rfl ?_)
  | (refine wpList_cap_all _ rfl rfl rfl HB.out ?_; rw [HCV.out])
  | (go_at_call 40; refine (HVA.out _).mono ?_; rintro e w2 ⟨rfl, hb2⟩; have hs2 := hb2.size; replace HB := hide (HB.out.below hb2 HB.out.lt); replace HW := hide (HW.out.trans (hb2.mono (by omega))); clear hb2))
 all_goals go_ret
 all_goals refine ⟨?_, HW.out⟩
 all_goals rw [HF.out]
 all_goals refine congrArg Ending.returned (congrArg Value.bool ?_)
 all_goals simp [*]

set_option maxHeartbeats 4000000 in
theorem read_ref (c : CapD) (lit : Value) (w : World) (hc : CapV c lit) :
 Calls Tryd.prog 37 #[capV c lit] w fun e w' => e = .returned (.bool (readF c)) ∧ Below w.heap.size w w' := by
 have HVA := hide (fun w => Valid_ref c lit w hc)
 obtain ⟨h1, h2, A, k, rfl⟩ := hc
 obtain ⟨CV, HCV⟩ : ∃ x, Hid (capV c (.slice A c.lit.length k) = x) := ⟨_, hide rfl⟩
 rw [HCV.out] at HVA ⊢
 have H1 := hide h1
 have H2 := hide h2
 clear h1 h2
 obtain ⟨v, EV⟩ : ∃ x, Hid (decide c.Valid = x) := ⟨_, hide rfl⟩
 rw [EV.out] at HVA
 obtain ⟨b2, e2⟩ : ∃ b, (c.kind != 2) = b := ⟨_, rfl⟩
 obtain ⟨b6, e6⟩ : ∃ b, (c.kind != 6) = b := ⟨_, rfl⟩
 obtain ⟨b9, e9⟩ : ∃ b, (c.kind != 9) = b := ⟨_, rfl⟩
 have HF := hide (show readF c = (v && (b2 && (b6 && b9))) by rw [readF, EV.out, e2, e6, e9])
 go_enter Tryd.func37, Tryd.ntmps37
 go_wp2_with (first
  | go_skip
  | (refine wpList_cap_new _ rfl (HCV.out.symm) rfl H1.out H2.out rfl ?_; intro w1 hb1 hw1 hs1; have HB := hide hb1; have HW := hide hw1; clear hb1 hw1)
  | (refine wpList_cap_int _ rfl _ rfl rfl HB.out _ rfl ?_)
  | (refine wpList_cap_all _ rfl rfl rfl HB.out ?_; rw [HCV.out])
  | (go_at_call 34; refine (HVA.out _).mono ?_; rintro e w2 ⟨rfl, hb2⟩; have hs2 := hb2.size; replace HB := hide (HB.out.below hb2 HB.out.lt); replace HW := hide (HW.out.trans (hb2.mono (by omega))); clear hb2))
 all_goals go_ret
 all_goals refine ⟨?_, HW.out⟩
 all_goals rw [HF.out]
 all_goals refine congrArg Ending.returned (congrArg Value.bool ?_)
 all_goals simp [*]

set_option maxHeartbeats 4000000 in
theorem write_ref (c : CapD) (lit : Value) (w : World) (hc : CapV c lit) :
 Calls Tryd.prog 39 #[capV c lit] w fun e w' => e = .returned (.bool (writeF c)) ∧ Below w.heap.size w w' := by
 have HVA := hide (fun w => Valid_ref c lit w hc)
 obtain ⟨h1, h2, A, k, rfl⟩ := hc
 obtain ⟨CV, HCV⟩ : ∃ x, Hid (capV c (.slice A c.lit.length k) = x) := ⟨_, hide rfl⟩
 rw [HCV.out] at HVA ⊢
 have H1 := hide h1
 have H2 := hide h2
 clear h1 h2
 obtain ⟨v, EV⟩ : ∃ x, Hid (decide c.Valid = x) := ⟨_, hide rfl⟩
 rw [EV.out] at HVA
 obtain ⟨b4, e4⟩ : ∃ b, (c.kind == 4) = b := ⟨_, rfl⟩
 obtain ⟨b7, e7⟩ : ∃ b, (c.kind == 7) = b := ⟨_, rfl⟩
 have HF := hide (show writeF c = (v && (b4 || b7)) by rw [writeF, EV.out, e4, e7])
 go_enter Tryd.func39, Tryd.ntmps39
 go_wp2_with (first
  | go_skip
  | (refine wpList_cap_new _ rfl (HCV.out.symm) rfl H1.out H2.out rfl ?_; intro w1 hb1 hw1 hs1; have HB := hide hb1; have HW := hide hw1; clear hb1 hw1)
  | (refine wpList_cap_int _ rfl _ rfl rfl HB.out _ rfl ?_)
  | (refine wpList_cap_all _ rfl rfl rfl HB.out ?_; rw [HCV.out])
  | (go_at_call 34; refine (HVA.out _).mono ?_; rintro e w2 ⟨rfl, hb2⟩; have hs2 := hb2.size; replace HB := hide (HB.out.below hb2 HB.out.lt); replace HW := hide (HW.out.trans (hb2.mono (by omega))); clear hb2))
 all_goals go_ret
 all_goals refine ⟨?_, HW.out⟩
 all_goals rw [HF.out]
 all_goals refine congrArg Ending.returned (congrArg Value.bool ?_)
 all_goals simp [*]
end Go.Proofs.YthdjgebbjogmiaaDoor

namespace Go.Proofs.YthdjgebbjogmiaaDoor
open Go Go.RowKit

section
variable {P : Program} {ops : Array Oper} {C : World → Prop} {Q : Act → Prop} {rest : List Oper} {o : Oper} {a : Act}
theorem quiet_go {v : Value} (d : Nat) (hd : o.dst = some d) (hw : Region.wanted o (yielded ops a.tmps) = true) (h0 : ∀ w', C w' → o.quietAt P a C w' v) (h : wpQuiet P ops C Q rest (a.put (some d) v)) : wpQuiet P ops C Q (o :: rest) a := by
 unfold wpQuiet
 rw [if_pos hw]
 exact ⟨v, h0, by rw [hd]; exact h⟩
/-- An operation that yields v in every world of the class. -/
theorem quiet_val {v : Value} (d : Nat) (hd : o.dst = some d) (hw : Region.wanted o (yielded ops a.tmps) = true) (h0 : ∀ w', C w' → (execOp a.eval o).run P w' = .ok (.value v) w') (h : wpQuiet P ops C Q rest (a.put (some d) v)) : wpQuiet P ops C Q (o :: rest) a :=
 quiet_go d hd hw (fun w' hw' => by unfold Oper.quietAt; rw [h0 w' hw']; exact ⟨rfl, rfl⟩) h
/-- A call that hands back v in every world of the class, and leaves one of the class. -/
theorem quiet_call {v : Value} (d : Nat) (hd : o.dst = some d) (hw : Region.wanted o (yielded ops a.tmps) = true) (f : Nat) (args : Array Value) (h0 : ∀ w', (execOp a.eval o).run P w' = .ok (.enter f args) w')
 (hc : ∀ w', C w' → Calls P f args w' fun e w'' => e = .returned v ∧ C w'') (h : wpQuiet P ops C Q rest (a.put (some d) v)) : wpQuiet P ops C Q (o :: rest) a :=
 quiet_go d hd hw (fun w' hw' => by unfold Oper.quietAt; rw [h0 w']; exact ⟨rfl, hc w' hw'⟩) h
end
/-- A call that only lays new blocks, among worlds that have turned nothing old. -/
theorem calls_below {P : Program} {f : Nat} {args : Array Value} {v : Value} {w0 w' : World} (hw : Below w0.heap.size w0 w') (h : Calls P f args w' fun e w'' => e = .returned v ∧ Below w'.heap.size w' w'') :
 Calls P f args w' fun e w'' => e = .returned v ∧ Below w0.heap.size w0 w'' :=
 h.mono fun e w'' ⟨he, hb⟩ => ⟨he, hw.trans (hb.mono hw.size)⟩

set_option maxRecDepth 100000
theorem wp_region_quietC {P : Program} (C : World → Prop) {id : Nat} {Q : Exit → Act → World → Prop} {a : Act} {w : World} {l : List Oper} (hm : P.follows .mixedOrders = true) (hB : Region.lexB .any l.toArray = true) (hC : C w.drew)
 (h : wpQuiet P l.toArray C (fun a' => ∀ w', C w' → Q .normal a' w') l a) : (Code.region id l.toArray true).wp P Q a w :=
 wp_region_quiet (C := C) hm hB hC (by simpa using h)
section
variable {P : Program} {o : Oper} {a : Act} {w : World}
theorem exec_load_one (ty : TypeId) (x : Operand) (ho : o.op = .load ty x) (g off : Nat) (hx : a.eval x = .pointer (some ⟨g, off, none⟩)) (d : TypeDesc) (hu : P.underlying ty = some d) (hd : d.isRow = false) (v : Value) (hc : w.cell? ⟨g, off, none⟩ = some v) :
 (execOp a.eval o).run P w = .ok (.value v) w := by
 unfold execOp
 simp only [ho, hx, Sem.run_bind, run_load_one w g off ty d v hc hu hd, Result.andThen_ok, Sem.run_pure]
theorem exec_index (t : TypeId) (x y : Operand) (ho : o.op = .index t x y) (v i u : Value) (hx : a.eval x = v) (hy : a.eval y = i) (hrun : (Instr.index t v i).run P w = .ok u w) : (execOp a.eval o).run P w = .ok (.value u) w := by
 unfold execOp
 simp only [ho, hx, hy, Sem.run_bind, hrun, Result.andThen_ok, Sem.run_pure]
theorem exec_move (x : Operand) (ho : o.op = .move x) (v : Value) (hx : a.eval x = v) : (execOp a.eval o).run P w = .ok (.value v) w := by
 unfold execOp
 simp only [ho, hx, Sem.run_pure]
theorem exec_assign (x : Operand) (ho : o.op = .assign x) (v : Value) (hx : a.eval x = v) : (execOp a.eval o).run P w = .ok (.value v) w := by
 unfold execOp
 simp only [ho, hx, Sem.run_pure]
end
section
variable {o : Oper} {a : Act} {w : World}
theorem exec_add (x y : Operand) (ho : o.op = .binOp .add 9 x y 9) (s t : ByteArray) (hx : a.eval x = .string s) (hy : a.eval y = .string t) (h : s.size + t.size ≤ 9223372036854775807) : (execOp a.eval o).run Tryd.prog w = .ok (.value (.string (s ++ t))) w := by
 unfold execOp
 simp only [ho, hx, hy]
 go_simp
theorem exec_slice_key (x : Operand) (ho : o.op = .slice 23 x none none none) (g off : Nat) (hx : a.eval x = .pointer (some ⟨g, off, none⟩)) : (execOp a.eval o).run Tryd.prog w = .ok (.value (.slice (some ⟨g, off, none⟩) 16 16)) w := by
 unfold execOp
 simp only [ho, hx]
 go_simp
theorem exec_slice_hash (x : Operand) (ho : o.op = .slice 25 x none none none) (g off : Nat) (hx : a.eval x = .pointer (some ⟨g, off, none⟩)) : (execOp a.eval o).run Tryd.prog w = .ok (.value (.slice (some ⟨g, off, none⟩) 32 32)) w := by
 unfold execOp
 simp only [ho, hx]
 go_simp
theorem exec_call (f : Nat) (xs : Array Operand) (ts : Array TypeId) (ho : o.op = .call { callee := .value (.func f), args := xs, argTypes := ts }) (args : Array Value) (hargs : xs.map a.eval = args) (hf : (callFunc f args).run Tryd.prog w = .ok (.enter f args) w) : (execOp a.eval o).run Tryd.prog w = .ok (.enter f args) w := by
 unfold execOp
 simp only [ho, resolve, Act.eval, invoke, hargs]
 go_simp
end
end Go.Proofs.YthdjgebbjogmiaaDoor

namespace Go.Proofs.YthdjgebbjogmiaaDoor
open Go Go.RowKit

/-- A kind's word as a string. -/
def wordS (k : Nat) : ByteArray := strOfNums (wordL k)
def wordsV : Array Value := ((List.range 10).map fun k => Value.string (wordS k)).toArray
set_option maxRecDepth 100000
theorem size_words : (Tryd.prog.info? 85).map (·.size) = some 10 := by kernel_rfl
theorem index_words (w : World) (k : Nat) (h : k < 10) : (Instr.index 85 (.agg wordsV) (.int .i64 (k : Int))).run Tryd.prog w = .ok (.string (wordS k)) w := by
 obtain rfl | rfl | rfl | rfl | rfl | rfl | rfl | rfl | rfl | rfl : k = 0 ∨ k = 1 ∨ k = 2 ∨ k = 3 ∨ k = 4 ∨ k = 5 ∨ k = 6 ∨ k = 7 ∨ k = 8 ∨ k = 9 := by omega
 all_goals simp [Instr.index, run_underlying Tryd.underlying85, run_underlying Tryd.underlying9, wordsV, go_sem]

def wordsL : List Value := (List.range 10).map fun k => Value.string (wordS k)
def wordParts : Array (Nat × Operand) := #[(0, Operand.const (Value.string { data := #[] })), (1, Operand.const (Value.string { data := #[102, 105, 108, 101] })), (2, Operand.const (Value.string { data := #[102, 105, 108, 101, 45, 118, 101, 114, 105, 102, 121] })), (3, Operand.const (Value.string { data := #[108, 105, 116] })), (4, Operand.const (Value.string { data := #[115, 108, 111, 116] })), (5, Operand.const (Value.string { data := #[115, 108, 111, 116, 45, 114, 101, 97, 100] })), (6, Operand.const (Value.string { data := #[115, 108, 111, 116, 45, 118, 101, 114, 105, 102, 121] })), (7, Operand.const (Value.string { data := #[100, 105, 114] })), (8, Operand.const (Value.string { data := #[100, 105, 114, 45, 114, 101, 97, 100] })), (9, Operand.const (Value.string { data := #[100, 105, 114, 45, 118, 101, 114, 105, 102, 121] }))]
def wordVals : List (Nat × Value) := [(0, Value.string { data := #[] }), (1, Value.string { data := #[102, 105, 108, 101] }), (2, Value.string { data := #[102, 105, 108, 101, 45, 118, 101, 114, 105, 102, 121] }), (3, Value.string { data := #[108, 105, 116] }), (4, Value.string { data := #[115, 108, 111, 116] }), (5, Value.string { data := #[115, 108, 111, 116, 45, 114, 101, 97, 100] }), (6, Value.string { data := #[115, 108, 111, 116, 45, 118, 101, 114, 105, 102, 121] }), (7, Value.string { data := #[100, 105, 114] }), (8, Value.string { data := #[100, 105, 114, 45, 114, 101, 97, 100] }), (9, Value.string { data := #[100, 105, 114, 45, 118, 101, 114, 105, 102, 121] })]
theorem built_words : Tryd.prog.built 85 wordVals = some wordsL.toArray := by kernel_rfl
theorem wpList_words {ops : Array Oper} {rest : List Oper} {o : Oper} {a : Act} {w : World} {Q : Exit → Act → World → Prop} (hgd : o.guard = none) (ho : o.op = .build 85 wordParts) (h : wpList Tryd.prog ops Q rest (a.put o.dst (.agg wordsV)) w) : wpList Tryd.prog ops Q (o :: rest) a w := by
 have hm : (wordParts.map fun (i, x) => (i, a.eval x)).toList = wordVals := by simp [wordParts, wordVals, Act.eval]
 exact wpList_build hgd _ wordParts ho (by rw [hm, built_words]; rfl) (by rw [hm, built_words]; exact h)
theorem wpList_index_agg {P : Program} {ops : Array Oper} {rest : List Oper} {o : Oper} {a : Act} {w : World} {Q : Exit → Act → World → Prop} (t : TypeId) (x y : Operand) (ho : o.op = .index t x y) (v i u : Value) (hx : a.eval x = v) (hy : a.eval y = i) (hw : Region.wanted o (yielded ops a.tmps) = true)
 (hrun : (Instr.index t v i).run P w = .ok u w) (h : wpList P ops Q rest (a.put o.dst u) w) : wpList P ops Q (o :: rest) a w :=
 wpList_go hw fun _ hK => wp_value u (by unfold execOp; simp only [ho, hx, hy, Sem.run_bind, hrun, Result.andThen_ok, Sem.run_pure]) (hK _ _ h)
theorem zero_words : (Tryd.prog.info? 85).map (·.zero) = some (some (.agg (List.replicate 10 (Value.string { data := #[] })).toArray)) := by kernel_rfl
theorem words_any (w : World) : Calls Tryd.prog 74 #[] w fun e w' => e = .returned (.agg wordsV) ∧ Below w.heap.size w w' := by
 obtain ⟨WL, HWL⟩ : ∃ x, Hid (wordsL = x) := ⟨_, hide rfl⟩
 have HV := hide (show wordsV = WL.toArray by rw [← HWL.out]; rfl)
 have HL := hide (show WL.length = 10 by rw [← HWL.out]; rfl)
 have H1 := hide (show ∀ u ∈ WL, u.oneCell' = true by
  rw [← HWL.out]
  intro u hu
  obtain ⟨k, _, rfl⟩ := List.mem_map.1 hu
  rfl)
 obtain ⟨Z, HZ⟩ : ∃ x, Hid ((List.replicate 10 (Value.string { data := #[] })) = x) := ⟨_, hide rfl⟩
 have HZL := hide (show Z.length = 10 by rw [← HZ.out]; rfl)
 have HZZ := hide (show (Tryd.prog.info? 85).map (·.zero) = some (some (.agg Z.toArray)) by rw [← HZ.out]; exact zero_words)
 go_enter Tryd.func74, Tryd.ntmps74
 go_wp2_with (first
  | (refine wpList_alloc_blk rfl _ rfl Z HZZ.out ?_; intro w1 b1 h1 s1; have B1 := hide b1; have HB1 := hide h1; clear b1 h1)
  | (refine wpList_words rfl rfl ?_; rw [HV.out])
  | (refine wpList_store_blk rfl _ _ _ rfl _ 0 WL rfl rfl _ _ B1.out (by rw [HL.out, HZL.out]; omega) (by rw [HL.out]; exact size_words) H1.out ?_; intro w2 b2 g2 s2; rw [lset_all _ _ (by rw [HL.out, HZL.out])] at b2)
  | (refine bodyPost_ret (v := .agg WL.toArray) (results_cell_row rfl _ _ w.heap.size 85 _ (0, 0) _ rfl b2 Tryd.underlying85 rfl (by rw [List.size_toArray, HL.out]; exact size_words)) rfl ⟨by rw [HV.out], HB1.out.grown g2 HB1.out.size (by intro k hk; simp at hk; omega)⟩))
section
variable {o : Oper} {a : Act} {w : World}
theorem exec_field (x : Operand) (k off : Nat) (ho : o.op = .fieldAddr 28 x k) (g : Nat) (hx : a.eval x = .pointer (some ⟨g, 0, none⟩)) (hk : [0, 1, 17, 49, 50, 51, 52][k]? = some off) : (execOp a.eval o).run Tryd.prog w = .ok (.value (.pointer (some ⟨g, off, none⟩))) w := by
 unfold execOp
 simp only [ho, hx]
 have h7 : k < 7 := by have := (List.getElem?_eq_some_iff.1 hk).1; simpa using this
 obtain rfl | rfl | rfl | rfl | rfl | rfl | rfl : k = 0 ∨ k = 1 ∨ k = 2 ∨ k = 3 ∨ k = 4 ∨ k = 5 ∨ k = 6 := by omega
 all_goals (simp at hk; subst hk; go_simp)
end
end Go.Proofs.YthdjgebbjogmiaaDoor
