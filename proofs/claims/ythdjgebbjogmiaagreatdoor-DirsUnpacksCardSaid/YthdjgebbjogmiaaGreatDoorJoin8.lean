/- CanRead, CanWrite, the program's and the reference's. No condition.
Regions that draw their order, whose calls only lay new blocks and always hand back the same value: one walk serves every order; what operations yield. No condition.
Regions that draw their order, whose calls only lay new blocks and always hand back the same value: one walk serves every order. Words of kinds. No condition.
Words of 32 bits: what the operations on them yield, and that they do. No condition. -/
import Derived.Test.YthdjgebbjogmiaaGreatDoorCapValid
import Derived.Test.YthdjgebbjogmiaaGreatDoorJoin6
import Derived.Deep.Quiet
import Derived.Test.YthdjgebbjogmiaaGreatDoorJoin2
import Derived.Deep.RegionHeld3
set_option linter.unusedVariables false
set_option linter.unusedSimpArgs false
namespace Go.Proofs.YthdjgebbjogmiaaGreatDoor
open Go Go.RowKit
set_option linter.unusedVariables false
set_option maxRecDepth 100000

def readF (c : CapD) : Bool := decide c.Valid && ((c.kind != 2) && ((c.kind != 6) && (c.kind != 9)))
def writeF (c : CapD) : Bool := decide c.Valid && ((c.kind == 4) || (c.kind == 7))

set_option maxHeartbeats 4000000 in
theorem read_any (c : CapD) (lit : Value) (w : World) (hc : CapV c lit) :
 Calls Tryz.prog 81 #[capV c lit] w fun e w' => e = .returned (.bool (readF c)) ∧ Below w.heap.size w w' := by
 have HVA := hide (fun w => Valid_any c lit w hc);obtain ⟨h1, h2, A, k, rfl⟩ := hc;obtain ⟨CV, HCV⟩ : ∃ x, Hid (capV c (.slice A c.lit.length k) = x) := ⟨_, hide rfl⟩;rw [HCV.out] at HVA ⊢;have H1 := hide h1;have H2 := hide h2;clear h1 h2;obtain ⟨v, EV⟩ : ∃ x, Hid (decide c.Valid = x) := ⟨_, hide rfl⟩;rw [EV.out] at HVA;obtain ⟨b2, e2⟩ : ∃ b, (c.kind != 2) = b := ⟨_, rfl⟩;obtain ⟨b6, e6⟩ : ∃ b, (c.kind != 6) = b := ⟨_, rfl⟩;obtain ⟨b9, e9⟩ : ∃ b, (c.kind != 9) = b := ⟨_, rfl⟩;have HF := hide (show readF c = (v && (b2 && (b6 && b9))) by rw [readF, EV.out, e2, e6, e9])
 go_enter Tryz.func81, Tryz.ntmps81
 go_wp2_with (first
  | go_skip
  | (refine wpList_cap_new _ rfl (HCV.out.symm) rfl H1.out H2.out rfl ?_; intro w1 hb1 hw1 hs1; have HB := hide hb1; have HW := hide hw1; clear hb1 hw1)
  | (refine wpList_cap_int _ rfl _ rfl rfl HB.out _ rfl ?_)
  | (refine wpList_cap_all _ rfl rfl rfl HB.out ?_; rw [HCV.out])
  | (go_at_call 25; refine (HVA.out _).mono ?_; rintro e w2 ⟨rfl, hb2⟩; have hs2 := hb2.size; replace HB := hide (HB.out.below hb2 HB.out.lt); replace HW := hide (HW.out.trans (hb2.mono (by omega))); clear hb2))
 all_goals go_ret
 all_goals refine ⟨?_, HW.out⟩
 all_goals rw [HF.out]
 all_goals refine congrArg Ending.returned (congrArg Value.bool ?_)
 all_goals simp [*]

set_option maxHeartbeats 4000000 in
theorem write_any (c : CapD) (lit : Value) (w : World) (hc : CapV c lit) :
 Calls Tryz.prog 69 #[capV c lit] w fun e w' => e = .returned (.bool (writeF c)) ∧ Below w.heap.size w w' := by
 have HVA := hide (fun w => Valid_any c lit w hc);obtain ⟨h1, h2, A, k, rfl⟩ := hc;obtain ⟨CV, HCV⟩ : ∃ x, Hid (capV c (.slice A c.lit.length k) = x) := ⟨_, hide rfl⟩;rw [HCV.out] at HVA ⊢;have H1 := hide h1;have H2 := hide h2;clear h1 h2;obtain ⟨v, EV⟩ : ∃ x, Hid (decide c.Valid = x) := ⟨_, hide rfl⟩;rw [EV.out] at HVA;obtain ⟨b4, e4⟩ : ∃ b, (c.kind == 4) = b := ⟨_, rfl⟩;obtain ⟨b7, e7⟩ : ∃ b, (c.kind == 7) = b := ⟨_, rfl⟩;have HF := hide (show writeF c = (v && (b4 || b7)) by rw [writeF, EV.out, e4, e7])
 go_enter Tryz.func69, Tryz.ntmps69
 go_wp2_with (first
  | go_skip
  | (refine wpList_cap_new _ rfl (HCV.out.symm) rfl H1.out H2.out rfl ?_; intro w1 hb1 hw1 hs1; have HB := hide hb1; have HW := hide hw1; clear hb1 hw1)
  | (refine wpList_cap_int _ rfl _ rfl rfl HB.out _ rfl ?_)
  | (refine wpList_cap_all _ rfl rfl rfl HB.out ?_; rw [HCV.out])
  | (go_at_call 25; refine (HVA.out _).mono ?_; rintro e w2 ⟨rfl, hb2⟩; have hs2 := hb2.size; replace HB := hide (HB.out.below hb2 HB.out.lt); replace HW := hide (HW.out.trans (hb2.mono (by omega))); clear hb2))
 all_goals go_ret
 all_goals refine ⟨?_, HW.out⟩
 all_goals rw [HF.out]
 all_goals refine congrArg Ending.returned (congrArg Value.bool ?_)
 all_goals simp [*]

set_option maxHeartbeats 4000000 in
theorem read_ref (c : CapD) (lit : Value) (w : World) (hc : CapV c lit) :
 Calls Tryz.prog 23 #[capV c lit] w fun e w' => e = .returned (.bool (readF c)) ∧ Below w.heap.size w w' := by
 have HVA := hide (fun w => Valid_ref c lit w hc);obtain ⟨h1, h2, A, k, rfl⟩ := hc;obtain ⟨CV, HCV⟩ : ∃ x, Hid (capV c (.slice A c.lit.length k) = x) := ⟨_, hide rfl⟩;rw [HCV.out] at HVA ⊢;have H1 := hide h1;have H2 := hide h2;clear h1 h2;obtain ⟨v, EV⟩ : ∃ x, Hid (decide c.Valid = x) := ⟨_, hide rfl⟩;rw [EV.out] at HVA;obtain ⟨b2, e2⟩ : ∃ b, (c.kind != 2) = b := ⟨_, rfl⟩;obtain ⟨b6, e6⟩ : ∃ b, (c.kind != 6) = b := ⟨_, rfl⟩;obtain ⟨b9, e9⟩ : ∃ b, (c.kind != 9) = b := ⟨_, rfl⟩;have HF := hide (show readF c = (v && (b2 && (b6 && b9))) by rw [readF, EV.out, e2, e6, e9])
 go_enter Tryz.func23, Tryz.ntmps23
 go_wp2_with (first
  | go_skip
  | (refine wpList_cap_new _ rfl (HCV.out.symm) rfl H1.out H2.out rfl ?_; intro w1 hb1 hw1 hs1; have HB := hide hb1; have HW := hide hw1; clear hb1 hw1)
  | (refine wpList_cap_int _ rfl _ rfl rfl HB.out _ rfl ?_)
  | (refine wpList_cap_all _ rfl rfl rfl HB.out ?_; rw [HCV.out])
  | (go_at_call 15; refine (HVA.out _).mono ?_; rintro e w2 ⟨rfl, hb2⟩; have hs2 := hb2.size; replace HB := hide (HB.out.below hb2 HB.out.lt); replace HW := hide (HW.out.trans (hb2.mono (by omega))); clear hb2))
 all_goals go_ret
 all_goals refine ⟨?_, HW.out⟩
 all_goals rw [HF.out]
 all_goals refine congrArg Ending.returned (congrArg Value.bool ?_)
 all_goals simp [*]

set_option maxHeartbeats 4000000 in
theorem write_ref (c : CapD) (lit : Value) (w : World) (hc : CapV c lit) :
 Calls Tryz.prog 24 #[capV c lit] w fun e w' => e = .returned (.bool (writeF c)) ∧ Below w.heap.size w w' := by
 have HVA := hide (fun w => Valid_ref c lit w hc);obtain ⟨h1, h2, A, k, rfl⟩ := hc;obtain ⟨CV, HCV⟩ : ∃ x, Hid (capV c (.slice A c.lit.length k) = x) := ⟨_, hide rfl⟩;rw [HCV.out] at HVA ⊢;have H1 := hide h1;have H2 := hide h2;clear h1 h2;obtain ⟨v, EV⟩ : ∃ x, Hid (decide c.Valid = x) := ⟨_, hide rfl⟩;rw [EV.out] at HVA;obtain ⟨b4, e4⟩ : ∃ b, (c.kind == 4) = b := ⟨_, rfl⟩;obtain ⟨b7, e7⟩ : ∃ b, (c.kind == 7) = b := ⟨_, rfl⟩;have HF := hide (show writeF c = (v && (b4 || b7)) by rw [writeF, EV.out, e4, e7])
 go_enter Tryz.func24, Tryz.ntmps24
 go_wp2_with (first
  | go_skip
  | (refine wpList_cap_new _ rfl (HCV.out.symm) rfl H1.out H2.out rfl ?_; intro w1 hb1 hw1 hs1; have HB := hide hb1; have HW := hide hw1; clear hb1 hw1)
  | (refine wpList_cap_int _ rfl _ rfl rfl HB.out _ rfl ?_)
  | (refine wpList_cap_all _ rfl rfl rfl HB.out ?_; rw [HCV.out])
  | (go_at_call 15; refine (HVA.out _).mono ?_; rintro e w2 ⟨rfl, hb2⟩; have hs2 := hb2.size; replace HB := hide (HB.out.below hb2 HB.out.lt); replace HW := hide (HW.out.trans (hb2.mono (by omega))); clear hb2))
 all_goals go_ret
 all_goals refine ⟨?_, HW.out⟩
 all_goals rw [HF.out]
 all_goals refine congrArg Ending.returned (congrArg Value.bool ?_)
 all_goals simp [*]

section
variable {P : Program} {ops : Array Oper} {C : World → Prop} {Q : Act → Prop} {rest : List Oper} {o : Oper} {a : Act}
theorem quiet_go {v : Value} (d : Nat) (hd : o.dst = some d) (hw : Region.wanted o (yielded ops a.tmps) = true) (h0 : ∀ w', C w' → o.quietAt P a C w' v) (h : wpQuiet P ops C Q rest (a.put (some d) v)) : wpQuiet P ops C Q (o :: rest) a := by
 unfold wpQuiet;rw [if_pos hw];exact ⟨v, h0, by rw [hd]; exact h⟩
/-- An operation that yields v in every world of the class. -/
theorem quiet_val {v : Value} (d : Nat) (hd : o.dst = some d) (hw : Region.wanted o (yielded ops a.tmps) = true) (h0 : ∀ w', C w' → (execOp a.eval o).run P w' = .ok (.value v) w') (h : wpQuiet P ops C Q rest (a.put (some d) v)) : wpQuiet P ops C Q (o :: rest) a :=
 quiet_go d hd hw (fun w' hw' => by unfold Oper.quietAt; rw [h0 w' hw']; exact ⟨rfl, rfl⟩) h
/-- A call that hands back v in every world of the class, and leaves one of the class. -/
theorem quiet_call {v : Value} (d : Nat) (hd : o.dst = some d) (hw : Region.wanted o (yielded ops a.tmps) = true) (f : Nat) (args : Array Value) (h0 : ∀ w', (execOp a.eval o).run P w' = .ok (.enter f args) w')
 (hc : ∀ w', C w' → Calls P f args w' fun e w'' => e = .returned v ∧ C w'') (h : wpQuiet P ops C Q rest (a.put (some d) v)) : wpQuiet P ops C Q (o :: rest) a :=
 quiet_go d hd hw (fun w' hw' => by unfold Oper.quietAt; rw [h0 w']; exact ⟨rfl, hc w' hw'⟩) h
end
/-- A call that only lays new blocks, among worlds that have turned nothing old. -/
theorem calls_below {P : Program} {f : Nat} {args : Array Value} {v : Value} {w0 w' : World} (hw : Below w0.heap.size w0 w') (h : Calls P f args w' fun e w'' => e = .returned v ∧ Below w'.heap.size w' w'') :
 Calls P f args w' fun e w'' => e = .returned v ∧ Below w0.heap.size w0 w'' :=
 h.mono fun e w'' ⟨he, hb⟩ => ⟨he, hw.trans (hb.mono hw.size)⟩

set_option maxRecDepth 100000
theorem wp_region_quietC {P : Program} (C : World → Prop) {id : Nat} {Q : Exit → Act → World → Prop} {a : Act} {w : World} {l : List Oper} (hm : P.follows .mixedOrders = true) (hB : Region.lexB .any l.toArray = true) (hC : C w.drew)
 (h : wpQuiet P l.toArray C (fun a' => ∀ w', C w' → Q .normal a' w') l a) : (Code.region id l.toArray true).wp P Q a w :=
 wp_region_quiet (C := C) hm hB hC (by simpa using h)
section
variable {P : Program} {o : Oper} {a : Act} {w : World}
theorem exec_load_one (ty : TypeId) (x : Operand) (ho : o.op = .load ty x) (g off : Nat) (hx : a.eval x = .pointer (some ⟨g, off, none⟩)) (d : TypeDesc) (hu : P.underlying ty = some d) (hd : d.isRow = false) (v : Value) (hc : w.cell? ⟨g, off, none⟩ = some v) :
 (execOp a.eval o).run P w = .ok (.value v) w := by
 unfold execOp;simp only [ho, hx, Sem.run_bind, run_load_one w g off ty d v hc hu hd, Result.andThen_ok, Sem.run_pure]
theorem exec_index (t : TypeId) (x y : Operand) (ho : o.op = .index t x y) (v i u : Value) (hx : a.eval x = v) (hy : a.eval y = i) (hrun : (Instr.index t v i).run P w = .ok u w) : (execOp a.eval o).run P w = .ok (.value u) w := by
 unfold execOp;simp only [ho, hx, hy, Sem.run_bind, hrun, Result.andThen_ok, Sem.run_pure]
theorem exec_move (x : Operand) (ho : o.op = .move x) (v : Value) (hx : a.eval x = v) : (execOp a.eval o).run P w = .ok (.value v) w := by
 unfold execOp;simp only [ho, hx, Sem.run_pure]
theorem exec_assign (x : Operand) (ho : o.op = .assign x) (v : Value) (hx : a.eval x = v) : (execOp a.eval o).run P w = .ok (.value v) w := by
 unfold execOp;simp only [ho, hx, Sem.run_pure]
end
section
variable {o : Oper} {a : Act} {w : World}
theorem exec_add (x y : Operand) (ho : o.op = .binOp .add 9 x y 9) (s t : ByteArray) (hx : a.eval x = .string s) (hy : a.eval y = .string t) (h : s.size + t.size ≤ 9223372036854775807) : (execOp a.eval o).run Tryz.prog w = .ok (.value (.string (s ++ t))) w := by
 unfold execOp;simp only [ho, hx, hy]
 go_simp
theorem exec_slice_key (x : Operand) (ho : o.op = .slice 23 x none none none) (g off : Nat) (hx : a.eval x = .pointer (some ⟨g, off, none⟩)) : (execOp a.eval o).run Tryz.prog w = .ok (.value (.slice (some ⟨g, off, none⟩) 16 16)) w := by
 unfold execOp;simp only [ho, hx]
 go_simp
theorem exec_slice_hash (x : Operand) (ho : o.op = .slice 25 x none none none) (g off : Nat) (hx : a.eval x = .pointer (some ⟨g, off, none⟩)) : (execOp a.eval o).run Tryz.prog w = .ok (.value (.slice (some ⟨g, off, none⟩) 32 32)) w := by
 unfold execOp;simp only [ho, hx]
 go_simp
theorem exec_call (f : Nat) (xs : Array Operand) (ts : Array TypeId) (ho : o.op = .call { callee := .value (.func f), args := xs, argTypes := ts }) (args : Array Value) (hargs : xs.map a.eval = args) (hf : (callFunc f args).run Tryz.prog w = .ok (.enter f args) w) : (execOp a.eval o).run Tryz.prog w = .ok (.enter f args) w := by
 unfold execOp;simp only [ho, resolve, Act.eval, invoke, hargs]
 go_simp
end

/-- A kind's word as a string. -/
def wordS (k : Nat) : ByteArray := strOfNums (wordL k)
def wordsV : Array Value := ((List.range 10).map fun k => Value.string (wordS k)).toArray
set_option maxRecDepth 100000
theorem size_words : (Tryz.prog.info? 80).map (·.size) = some 10 := by kernel_rfl
theorem index_words (w : World) (k : Nat) (h : k < 10) : (Instr.index 80 (.agg wordsV) (.int .i64 (k : Int))).run Tryz.prog w = .ok (.string (wordS k)) w := by
 obtain rfl | rfl | rfl | rfl | rfl | rfl | rfl | rfl | rfl | rfl : k = 0 ∨ k = 1 ∨ k = 2 ∨ k = 3 ∨ k = 4 ∨ k = 5 ∨ k = 6 ∨ k = 7 ∨ k = 8 ∨ k = 9 := by omega
 all_goals simp [Instr.index, run_underlying Tryz.underlying80, run_underlying Tryz.underlying9, wordsV, go_sem]

def wordsL : List Value := (List.range 10).map fun k => Value.string (wordS k)
def wordParts : Array (Nat × Operand) := #[(0, Operand.const (Value.string { data := #[] })), (1, Operand.const (Value.string { data := #[102, 105, 108, 101] })), (2, Operand.const (Value.string { data := #[102, 105, 108, 101, 45, 118, 101, 114, 105, 102, 121] })), (3, Operand.const (Value.string { data := #[108, 105, 116] })), (4, Operand.const (Value.string { data := #[115, 108, 111, 116] })), (5, Operand.const (Value.string { data := #[115, 108, 111, 116, 45, 114, 101, 97, 100] })), (6, Operand.const (Value.string { data := #[115, 108, 111, 116, 45, 118, 101, 114, 105, 102, 121] })), (7, Operand.const (Value.string { data := #[100, 105, 114] })), (8, Operand.const (Value.string { data := #[100, 105, 114, 45, 114, 101, 97, 100] })), (9, Operand.const (Value.string { data := #[100, 105, 114, 45, 118, 101, 114, 105, 102, 121] }))]
def wordVals : List (Nat × Value) := [(0, Value.string { data := #[] }), (1, Value.string { data := #[102, 105, 108, 101] }), (2, Value.string { data := #[102, 105, 108, 101, 45, 118, 101, 114, 105, 102, 121] }), (3, Value.string { data := #[108, 105, 116] }), (4, Value.string { data := #[115, 108, 111, 116] }), (5, Value.string { data := #[115, 108, 111, 116, 45, 114, 101, 97, 100] }), (6, Value.string { data := #[115, 108, 111, 116, 45, 118, 101, 114, 105, 102, 121] }), (7, Value.string { data := #[100, 105, 114] }), (8, Value.string { data := #[100, 105, 114, 45, 114, 101, 97, 100] }), (9, Value.string { data := #[100, 105, 114, 45, 118, 101, 114, 105, 102, 121] })]
theorem built_words : Tryz.prog.built 80 wordVals = some wordsL.toArray := by kernel_rfl
theorem wpList_words {ops : Array Oper} {rest : List Oper} {o : Oper} {a : Act} {w : World} {Q : Exit → Act → World → Prop} (hgd : o.guard = none) (ho : o.op = .build 80 wordParts) (h : wpList Tryz.prog ops Q rest (a.put o.dst (.agg wordsV)) w) : wpList Tryz.prog ops Q (o :: rest) a w := by
 have hm : (wordParts.map fun (i, x) => (i, a.eval x)).toList = wordVals := by simp [wordParts, wordVals, Act.eval]
 exact wpList_build hgd _ wordParts ho (by rw [hm, built_words]; rfl) (by rw [hm, built_words]; exact h)
theorem wpList_index_agg {P : Program} {ops : Array Oper} {rest : List Oper} {o : Oper} {a : Act} {w : World} {Q : Exit → Act → World → Prop} (t : TypeId) (x y : Operand) (ho : o.op = .index t x y) (v i u : Value) (hx : a.eval x = v) (hy : a.eval y = i) (hw : Region.wanted o (yielded ops a.tmps) = true)
 (hrun : (Instr.index t v i).run P w = .ok u w) (h : wpList P ops Q rest (a.put o.dst u) w) : wpList P ops Q (o :: rest) a w :=
 wpList_go hw fun _ hK => wp_value u (by unfold execOp; simp only [ho, hx, hy, Sem.run_bind, hrun, Result.andThen_ok, Sem.run_pure]) (hK _ _ h)
theorem zero_words : (Tryz.prog.info? 80).map (·.zero) = some (some (.agg (List.replicate 10 (Value.string { data := #[] })).toArray)) := by kernel_rfl
theorem words_any (w : World) : Calls Tryz.prog 64 #[] w fun e w' => e = .returned (.agg wordsV) ∧ Below w.heap.size w w' := by
 obtain ⟨WL, HWL⟩ : ∃ x, Hid (wordsL = x) := ⟨_, hide rfl⟩;have HV := hide (show wordsV = WL.toArray by rw [← HWL.out]; rfl);have HL := hide (show WL.length = 10 by rw [← HWL.out]; rfl)
 have H1 := hide (show ∀ u ∈ WL, u.oneCell' = true by
  rw [← HWL.out];intro u hu;obtain ⟨k, _, rfl⟩ := List.mem_map.1 hu
  rfl)
 obtain ⟨Z, HZ⟩ : ∃ x, Hid ((List.replicate 10 (Value.string { data := #[] })) = x) := ⟨_, hide rfl⟩;have HZL := hide (show Z.length = 10 by rw [← HZ.out]; rfl);have HZZ := hide (show (Tryz.prog.info? 80).map (·.zero) = some (some (.agg Z.toArray)) by rw [← HZ.out]; exact zero_words)
 go_enter Tryz.func64, Tryz.ntmps64
 go_wp2_with (first
  | (refine wpList_alloc_blk rfl _ rfl Z HZZ.out ?_; intro w1 b1 h1 s1; have B1 := hide b1; have HB1 := hide h1; clear b1 h1)
  | (refine wpList_words rfl rfl ?_; rw [HV.out])
  | (refine wpList_store_blk rfl _ _ _ rfl _ 0 WL rfl rfl _ _ B1.out (by rw [HL.out, HZL.out]; omega) (by rw [HL.out]; exact size_words) H1.out ?_; intro w2 b2 g2 s2; rw [lset_all _ _ (by rw [HL.out, HZL.out])] at b2)
  | (refine bodyPost_ret (v := .agg WL.toArray) (results_cell_row rfl _ _ w.heap.size 80 _ (0, 0) _ rfl b2 Tryz.underlying80 rfl (by rw [List.size_toArray, HL.out]; exact size_words)) rfl ⟨by rw [HV.out], HB1.out.grown g2 HB1.out.size (by intro k hk; simp at hk; omega)⟩))
theorem word_ref (k : Nat) (hk : k < 10) (w : World) : Calls Tryz.prog 40 #[.int .i64 (k : Int)] w fun e w' => e = .returned (.string (wordS k)) ∧ w = w' := by
 have HI := hide (fun w => index_words w k hk);obtain ⟨WV, HWV⟩ : ∃ x, Hid (wordsV = x) := ⟨_, hide rfl⟩;rw [HWV.out] at HI;obtain ⟨WS, HWS⟩ : ∃ x, Hid (wordS k = x) := ⟨_, hide rfl⟩;rw [HWS.out] at HI ⊢
 go_enter Tryz.func40, Tryz.ntmps40
 go_wp2_with (first
  | (refine wpList_words rfl rfl ?_; rw [HWV.out])
  | (refine wpList_index_agg _ _ _ rfl (.agg WV) (.int .i64 (k : Int)) _ rfl rfl rfl (HI.out w) ?_))
 all_goals go_ret
 all_goals exact ⟨rfl, rfl⟩

section
variable {o : Oper} {a : Act} {w : World}
theorem exec_field (x : Operand) (k off : Nat) (ho : o.op = .fieldAddr 28 x k) (g : Nat) (hx : a.eval x = .pointer (some ⟨g, 0, none⟩)) (hk : [0, 1, 17, 49, 50, 51, 52][k]? = some off) : (execOp a.eval o).run Tryz.prog w = .ok (.value (.pointer (some ⟨g, off, none⟩))) w := by
 unfold execOp;simp only [ho, hx]
 have h7 : k < 7 := by have := (List.getElem?_eq_some_iff.1 hk).1; simpa using this
 obtain rfl | rfl | rfl | rfl | rfl | rfl | rfl : k = 0 ∨ k = 1 ∨ k = 2 ∨ k = 3 ∨ k = 4 ∨ k = 5 ∨ k = 6 := by omega
 all_goals (simp at hk; subst hk; go_simp)
end

def u32s (xs : List Int) : List Value := xs.map (Value.int .u32)
theorem u32s_len (xs : List Int) : (u32s xs).length = xs.length := by simp [u32s]
theorem u32s_set (xs : List Int) (i : Nat) (x : Int) : (u32s xs).set i (.int .u32 x) = u32s (xs.set i x) := by simp [u32s]
theorem u32s_one (xs : List Int) : ∀ u ∈ u32s xs, u.oneCell' = true := by
 intro u hu;obtain ⟨x, _, rfl⟩ := List.mem_map.1 hu
 rfl
def add32 (a b : Int) : Int := IntKind.u32.wrap (a + b)
def xor32 (a b : Int) : Int := bits .xor .u32 a b
def and32 (a b : Int) : Int := bits .and .u32 a b
def or32 (a b : Int) : Int := bits .or .u32 a b
def not32 (a : Int) : Int := bits .xor .u32 IntKind.u32.max a
/-- Turned to the right by k. -/
def rotF (x : Int) (k : Nat) : Int := bits .or .u32 (x * (2 ^ (32 - k) : Nat) % 4294967296) (x / (2 ^ k : Nat))

section
variable {o : Oper} {a : Act} {w : World}
theorem exec_add32 (x y : Operand) (t' : TypeId) (ho : o.op = .binOp .add 91 x y t') (p q : Int) (hx : a.eval x = .int .u32 p) (hy : a.eval y = .int .u32 q) : (execOp a.eval o).run Tryz.prog w = .ok (.value (.int .u32 (add32 p q))) w := by
 unfold execOp add32;simp only [ho, hx, hy]
 go_simp
theorem exec_xor32 (x y : Operand) (t' : TypeId) (ho : o.op = .binOp .xor 91 x y t') (p q : Int) (hx : a.eval x = .int .u32 p) (hy : a.eval y = .int .u32 q) : (execOp a.eval o).run Tryz.prog w = .ok (.value (.int .u32 (xor32 p q))) w := by
 unfold execOp xor32;simp only [ho, hx, hy]
 go_simp
theorem exec_and32 (x y : Operand) (t' : TypeId) (ho : o.op = .binOp .and 91 x y t') (p q : Int) (hx : a.eval x = .int .u32 p) (hy : a.eval y = .int .u32 q) : (execOp a.eval o).run Tryz.prog w = .ok (.value (.int .u32 (and32 p q))) w := by
 unfold execOp and32;simp only [ho, hx, hy]
 go_simp
theorem exec_or32 (x y : Operand) (t' : TypeId) (ho : o.op = .binOp .or 91 x y t') (p q : Int) (hx : a.eval x = .int .u32 p) (hy : a.eval y = .int .u32 q) : (execOp a.eval o).run Tryz.prog w = .ok (.value (.int .u32 (or32 p q))) w := by
 unfold execOp or32;simp only [ho, hx, hy]
 go_simp
theorem exec_not32 (x : Operand) (ho : o.op = .unOp .xor 91 x) (p : Int) (hx : a.eval x = .int .u32 p) : (execOp a.eval o).run Tryz.prog w = .ok (.value (.int .u32 (not32 p))) w := by
 unfold execOp not32;simp only [ho, hx]
 go_simp
 rfl
theorem exec_shr32_24 (x : Operand) (t' : TypeId) (ho : o.op = .binOp .shr 91 x (.const (.int .u64 24)) t') (p : Int) (hx : a.eval x = .int .u32 p) : (execOp a.eval o).run Tryz.prog w = .ok (.value (.int .u32 (p / 16777216))) w := by
 have hk : a.eval (.const (.int .u64 24)) = .int .u64 24 := rfl;unfold execOp;simp only [ho, hx, hk]
 go_simp
theorem exec_shr32_16 (x : Operand) (t' : TypeId) (ho : o.op = .binOp .shr 91 x (.const (.int .u64 16)) t') (p : Int) (hx : a.eval x = .int .u32 p) : (execOp a.eval o).run Tryz.prog w = .ok (.value (.int .u32 (p / 65536))) w := by
 have hk : a.eval (.const (.int .u64 16)) = .int .u64 16 := rfl;unfold execOp;simp only [ho, hx, hk]
 go_simp
theorem exec_shr32_8 (x : Operand) (t' : TypeId) (ho : o.op = .binOp .shr 91 x (.const (.int .u64 8)) t') (p : Int) (hx : a.eval x = .int .u32 p) : (execOp a.eval o).run Tryz.prog w = .ok (.value (.int .u32 (p / 256))) w := by
 have hk : a.eval (.const (.int .u64 8)) = .int .u64 8 := rfl;unfold execOp;simp only [ho, hx, hk]
 go_simp
theorem exec_shr32_3 (x : Operand) (t' : TypeId) (ho : o.op = .binOp .shr 91 x (.const (.int .u64 3)) t') (p : Int) (hx : a.eval x = .int .u32 p) : (execOp a.eval o).run Tryz.prog w = .ok (.value (.int .u32 (p / 8))) w := by
 have hk : a.eval (.const (.int .u64 3)) = .int .u64 3 := rfl;unfold execOp;simp only [ho, hx, hk]
 go_simp
theorem exec_shr32_10 (x : Operand) (t' : TypeId) (ho : o.op = .binOp .shr 91 x (.const (.int .u64 10)) t') (p : Int) (hx : a.eval x = .int .u32 p) : (execOp a.eval o).run Tryz.prog w = .ok (.value (.int .u32 (p / 1024))) w := by
 have hk : a.eval (.const (.int .u64 10)) = .int .u64 10 := rfl;unfold execOp;simp only [ho, hx, hk]
 go_simp
theorem exec_shl32_24 (x : Operand) (t' : TypeId) (ho : o.op = .binOp .shl 91 x (.const (.int .u64 24)) t') (p : Int) (hx : a.eval x = .int .u32 p) : (execOp a.eval o).run Tryz.prog w = .ok (.value (.int .u32 (IntKind.u32.wrap (p * 16777216)))) w := by
 have hk : a.eval (.const (.int .u64 24)) = .int .u64 24 := rfl;unfold execOp;simp only [ho, hx, hk]
 go_simp
theorem exec_shl32_16 (x : Operand) (t' : TypeId) (ho : o.op = .binOp .shl 91 x (.const (.int .u64 16)) t') (p : Int) (hx : a.eval x = .int .u32 p) : (execOp a.eval o).run Tryz.prog w = .ok (.value (.int .u32 (IntKind.u32.wrap (p * 65536)))) w := by
 have hk : a.eval (.const (.int .u64 16)) = .int .u64 16 := rfl;unfold execOp;simp only [ho, hx, hk]
 go_simp
theorem exec_shl32_8 (x : Operand) (t' : TypeId) (ho : o.op = .binOp .shl 91 x (.const (.int .u64 8)) t') (p : Int) (hx : a.eval x = .int .u32 p) : (execOp a.eval o).run Tryz.prog w = .ok (.value (.int .u32 (IntKind.u32.wrap (p * 256)))) w := by
 have hk : a.eval (.const (.int .u64 8)) = .int .u64 8 := rfl;unfold execOp;simp only [ho, hx, hk]
 go_simp
theorem exec_conv32 (x : Operand) (ho : o.op = .convert 5 91 x) (p : Int) (hx : a.eval x = .int .u8 p) : (execOp a.eval o).run Tryz.prog w = .ok (.value (.int .u32 (IntKind.u32.wrap p))) w := by
 unfold execOp;simp only [ho, hx]
 go_simp
theorem exec_i64_mul (x y : Operand) (t' : TypeId) (ho : o.op = .binOp .mul 3 x y t') (p q z : Int) (hx : a.eval x = .int .i64 p) (hy : a.eval y = .int .i64 q) (hz : IntKind.i64.wrap (p * q) = z) : (execOp a.eval o).run Tryz.prog w = .ok (.value (.int .i64 z)) w := by
 subst hz;unfold execOp;simp only [ho, hx, hy]
 go_simp
theorem exec_i64_add (x y : Operand) (t' : TypeId) (ho : o.op = .binOp .add 3 x y t') (p q z : Int) (hx : a.eval x = .int .i64 p) (hy : a.eval y = .int .i64 q) (hz : IntKind.i64.wrap (p + q) = z) : (execOp a.eval o).run Tryz.prog w = .ok (.value (.int .i64 z)) w := by
 subst hz;unfold execOp;simp only [ho, hx, hy]
 go_simp
theorem exec_i64_sub (x y : Operand) (t' : TypeId) (ho : o.op = .binOp .sub 3 x y t') (p q z : Int) (hx : a.eval x = .int .i64 p) (hy : a.eval y = .int .i64 q) (hz : IntKind.i64.wrap (p - q) = z) : (execOp a.eval o).run Tryz.prog w = .ok (.value (.int .i64 z)) w := by
 subst hz;unfold execOp;simp only [ho, hx, hy]
 go_simp
theorem exec_index_u8 (x y : Operand) (ho : o.op = .indexAddr 26 x y) (b of n c : Nat) (k : Int) (j : Nat) (hx : a.eval x = .slice (some ⟨b, of, none⟩) n c) (hy : a.eval y = .int .i64 k) (hj : k = (j : Int)) (hn : j < n) :
 (execOp a.eval o).run Tryz.prog w = .ok (.value (.pointer (some ⟨b, of + j, none⟩))) w := by
 subst hj;unfold execOp;simp only [ho, hx, hy]
 have h1 : (j : Int) < (n : Int) := by omega
 have h0 : (0 : Int) ≤ (j : Int) := by omega
 go_simp
theorem exec_index_arr92 (x y : Operand) (ho : o.op = .indexAddr 92 x y) (g of : Nat) (k : Int) (j off : Nat) (hx : a.eval x = .pointer (some ⟨g, of, none⟩)) (hy : a.eval y = .int .i64 k) (hj : k = (j : Int)) (hn : j < 64) (ho' : off = of + j) :
 (execOp a.eval o).run Tryz.prog w = .ok (.value (.pointer (some ⟨g, off, none⟩))) w := by
 subst hj ho';unfold execOp;simp only [ho, hx, hy]
 have h1 : (j : Int) < 64 := by omega
 have h0 : (0 : Int) ≤ (j : Int) := by omega
 go_simp
theorem exec_index_arr94 (x y : Operand) (ho : o.op = .indexAddr 94 x y) (g of : Nat) (k : Int) (j off : Nat) (hx : a.eval x = .pointer (some ⟨g, of, none⟩)) (hy : a.eval y = .int .i64 k) (hj : k = (j : Int)) (hn : j < 8) (ho' : off = of + j) :
 (execOp a.eval o).run Tryz.prog w = .ok (.value (.pointer (some ⟨g, off, none⟩))) w := by
 subst hj ho';unfold execOp;simp only [ho, hx, hy]
 have h1 : (j : Int) < 8 := by omega
 have h0 : (0 : Int) ≤ (j : Int) := by omega
 go_simp
theorem exec_nilCheck (x : Operand) (ho : o.op = .nilCheck x) (p : Addr) (hx : a.eval x = .pointer (some p)) : (execOp a.eval o).run Tryz.prog w = .ok (.value (.pointer (some p))) w := by
 unfold execOp;simp only [ho, hx]
 go_simp
theorem exec_conv8 (x : Operand) (ho : o.op = .convert 91 5 x) (p : Int) (hx : a.eval x = .int .u32 p) : (execOp a.eval o).run Tryz.prog w = .ok (.value (.int .u8 (IntKind.u8.wrap p))) w := by
 unfold execOp;simp only [ho, hx]
 go_simp
theorem exec_load_u32 (x : Operand) (ho : o.op = .load 91 x) (g off : Nat) (hx : a.eval x = .pointer (some ⟨g, off, none⟩)) (v : Value) (hc : w.cell? ⟨g, off, none⟩ = some v) : (execOp a.eval o).run Tryz.prog w = .ok (.value v) w := exec_load_one _ x ho g off hx _ Tryz.underlying91 rfl _ hc
theorem exec_load_u8 (x : Operand) (ho : o.op = .load 5 x) (g off : Nat) (hx : a.eval x = .pointer (some ⟨g, off, none⟩)) (v : Value) (hc : w.cell? ⟨g, off, none⟩ = some v) : (execOp a.eval o).run Tryz.prog w = .ok (.value v) w := exec_load_one _ x ho g off hx _ Tryz.underlying5 rfl _ hc
end
theorem size_u32 : (Tryz.prog.info? 91).map (·.size) = some 1 := by kernel_rfl
theorem size_a8 : (Tryz.prog.info? 94).map (·.size) = some 8 := by kernel_rfl
theorem zero_a8 : (Tryz.prog.info? 94).map (·.zero) = some (some (.agg (u32s (List.replicate 8 0)).toArray)) := by kernel_rfl
theorem zero_a64 : (Tryz.prog.info? 92).map (·.zero) = some (some (.agg (u32s (List.replicate 64 0)).toArray)) := by kernel_rfl
/-- The words' cells. -/
theorem blk_u32 {w : World} {g : Nat} {t : TypeId} {xs : List Int} (h : Blk w g t (u32s xs)) (i : Nat) (hi : i < xs.length) : w.cell? ⟨g, i, none⟩ = some (.int .u32 (xs.getD i 0)) := by
 rw [h.cell, u32s, List.getElem?_map, List.getElem?_eq_getElem hi, List.getD_eq_getElem?_getD, List.getElem?_eq_getElem hi]
 rfl
/-- A word stored into a block of words. -/
theorem wp_u32_put {o : Oper} {a : Act} {w : World} {K : Act → World → Prop} {Q : Exit → Act → World → Prop} (x y : Operand) (ho : o.op = .store 91 x y) (g i : Nat) (t : TypeId) (xs : List Int) (hx : a.eval x = .pointer (some ⟨g, i, none⟩)) (hB : Blk w g t (u32s xs)) (hi : i < xs.length) (z : Int) (hy : a.eval y = .int .u32 z)
 (h : ∀ w', Blk w' g t (u32s (xs.set i z)) → w.grownBy w' (some g) → w'.heap.size = w.heap.size → K (a.put o.dst undef) w') : o.wp Tryz.prog a w K Q := by
 have hg := grown_setCells (g := g) [Value.int .u32 z] w i;refine wp_store_one _ x y ho g i hx _ hy (by rw [blk_u32 hB i hi]; rfl) (hB.frozen _) rfl size_u32 (h _ ?_ hg.1 hg.2);have := hB.set_ i (.int .u32 z)
 rwa [u32s_set] at this
theorem wp_u32_putD {o : Oper} {a : Act} {w : World} {K : Act → World → Prop} {Q : Exit → Act → World → Prop} (hd : o.dst = none) (x y : Operand) (ho : o.op = .store 91 x y) (g i : Nat) (t : TypeId) (xs : List Int) (hx : a.eval x = .pointer (some ⟨g, i, none⟩)) (hB : Blk w g t (u32s xs)) (hi : i < xs.length) (z : Int) (hy : a.eval y = .int .u32 z)
 (h : ∀ w', Blk w' g t (u32s (xs.set i z)) → w.grownBy w' (some g) → w'.heap.size = w.heap.size → K (a.put none undef) w') : o.wp Tryz.prog a w K Q :=
 wp_u32_put x y ho g i t xs hx hB hi z hy fun w' h1 h2 h3 => by rw [hd]; exact h w' h1 h2 h3
theorem wpList_u32_put {ops : Array Oper} {rest : List Oper} {o : Oper} {a : Act} {w : World} {Q : Exit → Act → World → Prop} (hgd : o.guard = none) (x y : Operand) (ho : o.op = .store 91 x y) (g i : Nat) (t : TypeId) (xs : List Int) (hx : a.eval x = .pointer (some ⟨g, i, none⟩)) (hB : Blk w g t (u32s xs)) (hi : i < xs.length) (z : Int) (hy : a.eval y = .int .u32 z)
 (h : ∀ w', Blk w' g t (u32s (xs.set i z)) → w.grownBy w' (some g) → w'.heap.size = w.heap.size → wpList Tryz.prog ops Q rest (a.put o.dst undef) w') : wpList Tryz.prog ops Q (o :: rest) a w :=
 wpList_plain hgd fun _ hK => wp_u32_put x y ho g i t xs hx hB hi z hy fun w' h1 h2 h3 => hK _ _ (h w' h1 h2 h3)
/-- The program's and the document's turning. -/
theorem rot_7 (x : Int) (w : World) : Calls Tryz.prog 107 #[.int .u32 x, .int .i64 (-7)] w fun e w' => e = .returned (.int .u32 (rotF x 7)) ∧ w = w' := by
 have hb : bits .and .u64 (IntKind.u64.wrap (-7)) 31 = 25 := by decide +kernel
 go_enter Tryz.func107, Tryz.ntmps107
 go_wp2_with fail
 exact bodyPost_ret (results_tmp rfl _ _ _) rfl ⟨rfl, rfl⟩
theorem rot_18 (x : Int) (w : World) : Calls Tryz.prog 107 #[.int .u32 x, .int .i64 (-18)] w fun e w' => e = .returned (.int .u32 (rotF x 18)) ∧ w = w' := by
 have hb : bits .and .u64 (IntKind.u64.wrap (-18)) 31 = 14 := by decide +kernel
 go_enter Tryz.func107, Tryz.ntmps107
 go_wp2_with fail
 exact bodyPost_ret (results_tmp rfl _ _ _) rfl ⟨rfl, rfl⟩
theorem rot_17 (x : Int) (w : World) : Calls Tryz.prog 107 #[.int .u32 x, .int .i64 (-17)] w fun e w' => e = .returned (.int .u32 (rotF x 17)) ∧ w = w' := by
 have hb : bits .and .u64 (IntKind.u64.wrap (-17)) 31 = 15 := by decide +kernel
 go_enter Tryz.func107, Tryz.ntmps107
 go_wp2_with fail
 exact bodyPost_ret (results_tmp rfl _ _ _) rfl ⟨rfl, rfl⟩
theorem rot_19 (x : Int) (w : World) : Calls Tryz.prog 107 #[.int .u32 x, .int .i64 (-19)] w fun e w' => e = .returned (.int .u32 (rotF x 19)) ∧ w = w' := by
 have hb : bits .and .u64 (IntKind.u64.wrap (-19)) 31 = 13 := by decide +kernel
 go_enter Tryz.func107, Tryz.ntmps107
 go_wp2_with fail
 exact bodyPost_ret (results_tmp rfl _ _ _) rfl ⟨rfl, rfl⟩
theorem rot_6 (x : Int) (w : World) : Calls Tryz.prog 107 #[.int .u32 x, .int .i64 (-6)] w fun e w' => e = .returned (.int .u32 (rotF x 6)) ∧ w = w' := by
 have hb : bits .and .u64 (IntKind.u64.wrap (-6)) 31 = 26 := by decide +kernel
 go_enter Tryz.func107, Tryz.ntmps107
 go_wp2_with fail
 exact bodyPost_ret (results_tmp rfl _ _ _) rfl ⟨rfl, rfl⟩
theorem rot_11 (x : Int) (w : World) : Calls Tryz.prog 107 #[.int .u32 x, .int .i64 (-11)] w fun e w' => e = .returned (.int .u32 (rotF x 11)) ∧ w = w' := by
 have hb : bits .and .u64 (IntKind.u64.wrap (-11)) 31 = 21 := by decide +kernel
 go_enter Tryz.func107, Tryz.ntmps107
 go_wp2_with fail
 exact bodyPost_ret (results_tmp rfl _ _ _) rfl ⟨rfl, rfl⟩
theorem rot_25 (x : Int) (w : World) : Calls Tryz.prog 107 #[.int .u32 x, .int .i64 (-25)] w fun e w' => e = .returned (.int .u32 (rotF x 25)) ∧ w = w' := by
 have hb : bits .and .u64 (IntKind.u64.wrap (-25)) 31 = 7 := by decide +kernel
 go_enter Tryz.func107, Tryz.ntmps107
 go_wp2_with fail
 exact bodyPost_ret (results_tmp rfl _ _ _) rfl ⟨rfl, rfl⟩
theorem rot_2 (x : Int) (w : World) : Calls Tryz.prog 107 #[.int .u32 x, .int .i64 (-2)] w fun e w' => e = .returned (.int .u32 (rotF x 2)) ∧ w = w' := by
 have hb : bits .and .u64 (IntKind.u64.wrap (-2)) 31 = 30 := by decide +kernel
 go_enter Tryz.func107, Tryz.ntmps107
 go_wp2_with fail
 exact bodyPost_ret (results_tmp rfl _ _ _) rfl ⟨rfl, rfl⟩
theorem rot_13 (x : Int) (w : World) : Calls Tryz.prog 107 #[.int .u32 x, .int .i64 (-13)] w fun e w' => e = .returned (.int .u32 (rotF x 13)) ∧ w = w' := by
 have hb : bits .and .u64 (IntKind.u64.wrap (-13)) 31 = 19 := by decide +kernel
 go_enter Tryz.func107, Tryz.ntmps107
 go_wp2_with fail
 exact bodyPost_ret (results_tmp rfl _ _ _) rfl ⟨rfl, rfl⟩
theorem rot_22 (x : Int) (w : World) : Calls Tryz.prog 107 #[.int .u32 x, .int .i64 (-22)] w fun e w' => e = .returned (.int .u32 (rotF x 22)) ∧ w = w' := by
 have hb : bits .and .u64 (IntKind.u64.wrap (-22)) 31 = 10 := by decide +kernel
 go_enter Tryz.func107, Tryz.ntmps107
 go_wp2_with fail
 exact bodyPost_ret (results_tmp rfl _ _ _) rfl ⟨rfl, rfl⟩
theorem bits_or_comm (a b : Int) : bits .or .u32 a b = bits .or .u32 b a := by
 show IntKind.u32.wrap ((BitVec.ofInt 32 a ||| BitVec.ofInt 32 b).toNat : Int) = IntKind.u32.wrap ((BitVec.ofInt 32 b ||| BitVec.ofInt 32 a).toNat : Int)
 rw [BitVec.or_comm]
theorem turn_7 (x : Int) (w : World) : Calls Tryz.prog 75 #[.int .u32 x, .int .u64 7] w fun e w' => e = .returned (.int .u32 (rotF x 7)) ∧ w = w' := by
 go_enter Tryz.func75, Tryz.ntmps75
 go_wp2_with fail
 refine bodyPost_ret (results_tmp rfl _ _ _) rfl ⟨?_, rfl⟩;exact congrArg (fun z => Ending.returned (.int .u32 z)) (bits_or_comm _ _)
theorem turn_18 (x : Int) (w : World) : Calls Tryz.prog 75 #[.int .u32 x, .int .u64 18] w fun e w' => e = .returned (.int .u32 (rotF x 18)) ∧ w = w' := by
 go_enter Tryz.func75, Tryz.ntmps75
 go_wp2_with fail
 refine bodyPost_ret (results_tmp rfl _ _ _) rfl ⟨?_, rfl⟩;exact congrArg (fun z => Ending.returned (.int .u32 z)) (bits_or_comm _ _)
theorem turn_17 (x : Int) (w : World) : Calls Tryz.prog 75 #[.int .u32 x, .int .u64 17] w fun e w' => e = .returned (.int .u32 (rotF x 17)) ∧ w = w' := by
 go_enter Tryz.func75, Tryz.ntmps75
 go_wp2_with fail
 refine bodyPost_ret (results_tmp rfl _ _ _) rfl ⟨?_, rfl⟩;exact congrArg (fun z => Ending.returned (.int .u32 z)) (bits_or_comm _ _)
theorem turn_19 (x : Int) (w : World) : Calls Tryz.prog 75 #[.int .u32 x, .int .u64 19] w fun e w' => e = .returned (.int .u32 (rotF x 19)) ∧ w = w' := by
 go_enter Tryz.func75, Tryz.ntmps75
 go_wp2_with fail
 refine bodyPost_ret (results_tmp rfl _ _ _) rfl ⟨?_, rfl⟩;exact congrArg (fun z => Ending.returned (.int .u32 z)) (bits_or_comm _ _)
theorem turn_6 (x : Int) (w : World) : Calls Tryz.prog 75 #[.int .u32 x, .int .u64 6] w fun e w' => e = .returned (.int .u32 (rotF x 6)) ∧ w = w' := by
 go_enter Tryz.func75, Tryz.ntmps75
 go_wp2_with fail
 refine bodyPost_ret (results_tmp rfl _ _ _) rfl ⟨?_, rfl⟩;exact congrArg (fun z => Ending.returned (.int .u32 z)) (bits_or_comm _ _)
theorem turn_11 (x : Int) (w : World) : Calls Tryz.prog 75 #[.int .u32 x, .int .u64 11] w fun e w' => e = .returned (.int .u32 (rotF x 11)) ∧ w = w' := by
 go_enter Tryz.func75, Tryz.ntmps75
 go_wp2_with fail
 refine bodyPost_ret (results_tmp rfl _ _ _) rfl ⟨?_, rfl⟩;exact congrArg (fun z => Ending.returned (.int .u32 z)) (bits_or_comm _ _)
theorem turn_25 (x : Int) (w : World) : Calls Tryz.prog 75 #[.int .u32 x, .int .u64 25] w fun e w' => e = .returned (.int .u32 (rotF x 25)) ∧ w = w' := by
 go_enter Tryz.func75, Tryz.ntmps75
 go_wp2_with fail
 refine bodyPost_ret (results_tmp rfl _ _ _) rfl ⟨?_, rfl⟩;exact congrArg (fun z => Ending.returned (.int .u32 z)) (bits_or_comm _ _)
theorem turn_2 (x : Int) (w : World) : Calls Tryz.prog 75 #[.int .u32 x, .int .u64 2] w fun e w' => e = .returned (.int .u32 (rotF x 2)) ∧ w = w' := by
 go_enter Tryz.func75, Tryz.ntmps75
 go_wp2_with fail
 refine bodyPost_ret (results_tmp rfl _ _ _) rfl ⟨?_, rfl⟩;exact congrArg (fun z => Ending.returned (.int .u32 z)) (bits_or_comm _ _)
theorem turn_13 (x : Int) (w : World) : Calls Tryz.prog 75 #[.int .u32 x, .int .u64 13] w fun e w' => e = .returned (.int .u32 (rotF x 13)) ∧ w = w' := by
 go_enter Tryz.func75, Tryz.ntmps75
 go_wp2_with fail
 refine bodyPost_ret (results_tmp rfl _ _ _) rfl ⟨?_, rfl⟩;exact congrArg (fun z => Ending.returned (.int .u32 z)) (bits_or_comm _ _)
theorem turn_22 (x : Int) (w : World) : Calls Tryz.prog 75 #[.int .u32 x, .int .u64 22] w fun e w' => e = .returned (.int .u32 (rotF x 22)) ∧ w = w' := by
 go_enter Tryz.func75, Tryz.ntmps75
 go_wp2_with fail
 refine bodyPost_ret (results_tmp rfl _ _ _) rfl ⟨?_, rfl⟩;exact congrArg (fun z => Ending.returned (.int .u32 z)) (bits_or_comm _ _)
end Go.Proofs.YthdjgebbjogmiaaGreatDoor
