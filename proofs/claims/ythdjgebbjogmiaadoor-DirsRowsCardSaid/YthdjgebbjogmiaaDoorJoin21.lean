/- Names cut and joined; entries cut. No condition.
Worlds that grew, and grew again. No condition.
Entries in a block: capabilities and the flag written into them; small operations. No condition.
What may only read, only verify: from less to more no way leads. No program in sight.
Entries that may be, made of any: the plain law. No program in sight but for the words. -/
import Derived.Test.YthdjgebbjogmiaaDoorJoin20
import Derived.Test.YthdjgebbjogmiaaDoorJoin19
import Derived.Test.YthdjgebbjogmiaaDoorBase
import Derived.Test.YthdjgebbjogmiaaDoorJoin17
import Derived.Test.YthdjgebbjogmiaaDoorJoin16
import Derived.Test.YthdjgebbjogmiaaDoorJoin12
import Derived.Test.YthdjgebbjogmiaaDoorJoin13
import Derived.Test.YthdjgebbjogmiaaDoorRight
set_option linter.unusedVariables false
set_option linter.unusedSimpArgs false
namespace Go.Proofs.YthdjgebbjogmiaaDoor
open Go Go.RowKit
set_option maxRecDepth 100000
theorem strOf_take (xs : List Int) (n : Nat) : (strOfNums xs).extract 0 n = strOfNums (xs.take n) := by
 apply ByteArray.ext
 apply Array.ext'
 simp [strOfNums]
theorem strOf_app (xs ys : List Int) : strOfNums xs ++ strOfNums ys = strOfNums (xs ++ ys) := by
 apply ByteArray.ext
 apply Array.ext'
 simp [strOfNums]
section
variable {o : Oper} {a : Act} {w : World}
theorem exec_slice_name (x : Operand) (y : Operand) (ho : o.op = .slice 9 x none (some y) none) (xs : List Int) (hx : a.eval x = .string (strOfNums xs)) (n : Nat) (hy : a.eval y = .int .i64 (n : Int)) (hn : n ≤ xs.length) :
 (execOp a.eval o).run Tryd.prog w = .ok (.value (.string (strOfNums (xs.take n)))) w := by
 unfold execOp
 simp only [ho, hx, hy, Option.map_some, Option.map_none]
 have h := run_slice_string_h w 9 (strOfNums xs) Tryd.underlying9 .i64 (n : Int) (by omega) (by rw [strOfNums_size]; omega)
 rw [Int.toNat_natCast, strOf_take] at h
 simp only [Sem.run_bind, run_sliceAt_string _ _ _ _ _ _ Tryd.underlying9, h, Result.andThen_ok]
 rfl
theorem exec_len_strM (x : Operand) (ho : o.op = .call { callee := .builtin .len, args := #[x], argTypes := #[9] }) (nm : List Int) (hx : a.eval x = .string (strOfNums nm)) : (execOp a.eval o).run Tryd.prog w = .ok (.value (.int .i64 (nm.length : Int))) w := by
 unfold execOp
 simp only [ho, resolve, invoke, builtin, Sem.run_bind, Sem.run_pure, Result.andThen_ok, List.map_toArray, List.map_cons, List.map_nil, hx]
 simp [Builtin.len_, run_underlying Tryd.underlying9, goInt, strOfNums_size]
end
theorem CapD.Wf.cut {c : CapD} (h : c.Wf) (n : Nat) : CapD.Wf { c with lit := c.lit.take n } := ⟨h.keyL, h.keyB, h.fpL, h.fpB, fun x hx => h.litB x (List.mem_of_mem_take hx)⟩
end Go.Proofs.YthdjgebbjogmiaaDoor

namespace Go.Proofs.YthdjgebbjogmiaaDoor
open Go Go.RowKit
set_option maxRecDepth 100000
theorem World.grownBy.drewG (w : World) (r : Option Nat) : w.grownBy w.drew r := ⟨rfl, rfl, rfl, Nat.le_refl _, fun _ _ _ => rfl⟩
theorem World.grownBy.transG {a b c : World} {r : Option Nat} (h : a.grownBy b r) (h' : b.grownBy c r) : a.grownBy c r :=
 ⟨h'.os.trans h.os, h'.tape.trans h.tape, h'.output.trans h.output, Nat.le_trans h.size h'.size, fun k hk hne => by rw [h'.block k (Nat.lt_of_lt_of_le hk h.size) hne, h.block k hk hne]⟩
theorem Below.toGrown {w w' : World} (h : Below w.heap.size w w') (r : Option Nat) : w.grownBy w' r := ⟨h.os, h.tape, h.output, h.size, fun k hk _ => h.block k hk⟩
end Go.Proofs.YthdjgebbjogmiaaDoor

namespace Go.Proofs.YthdjgebbjogmiaaDoor
open Go Go.RowKit
set_option linter.unusedVariables false
set_option maxRecDepth 100000
section
variable {e : EntD} {x y : Value}
theorem ent_setRead (h1 : LenE e) (c : CapD) (l : Value) (hk : c.key.length = 16) (hf : c.fp.length = 32) : lset (entC e x y) 1 (capCells c l) = entC { e with read := c } l y := by
 have := lset_app (capCells c l) [Value.string (strOfNums e.name)] (capCells e.write y ++ [.bool e.has]) (capCells e.read x) (by rw [cc_len x h1.rk h1.rf, cc_len l hk hf])
 exact this
theorem ent_setWrite (h1 : LenE e) (h2 : LenW e) (c : CapD) (l : Value) (hk : c.key.length = 16) (hf : c.fp.length = 32) : lset (entC e x y) 54 (capCells c l) = entC { e with write := c } x l := by
 have := lset_app (capCells c l) (Value.string (strOfNums e.name) :: capCells e.read x) [.bool e.has] (capCells e.write y) (by rw [cc_len y h2.wk h2.wf, cc_len l hk hf])
 rw [List.length_cons, cc_len x h1.rk h1.rf] at this
 exact this
theorem ent_setHas (h1 : LenE e) (h2 : LenW e) (b : Bool) : (entC e x y).set 107 (.bool b) = entC { e with has := b } x y := by
 unfold entC
 rw [List.set_cons_succ, List.set_append_right _ _ (by rw [cc_len x h1.rk h1.rf]; omega), cc_len x h1.rk h1.rf, List.set_append_right _ _ (by rw [cc_len y h2.wk h2.wf]; omega), cc_len y h2.wk h2.wf]
 rfl
theorem cap_ones {c : CapD} {l : Value} (h : l.oneCell' = true) : ∀ u ∈ capCells c l, u.oneCell' = true := cc_ones h
theorem size_capL {c : CapD} {l : Value} (hk : c.key.length = 16) (hf : c.fp.length = 32) : (Tryd.prog.info? 28).map (·.size) = some (capCells c l).length := by rw [cc_len l hk hf]; exact size_cap
theorem size_entL {e : EntD} {x y : Value} (h1 : LenE e) (h2 : LenW e) : (Tryd.prog.info? 45).map (·.size) = some (entC e x y).length := by rw [ent_lenL h1 h2]; exact size_ent
theorem none_LE : LenE EntD.none_ ∧ LenW EntD.none_ := ⟨⟨rfl, rfl⟩, ⟨rfl, rfl⟩⟩
theorem EntD.Wf.lens {e : EntD} (h : e.Wf) : LenE e ∧ LenW e := ⟨⟨h.rWf.keyL, h.rWf.fpL⟩, ⟨h.wWf.keyL, h.wWf.fpL⟩⟩
end
theorem Own8.past_ {w w' : World} {base g : Nat} {v : Value} {xs : List Int} {t : TypeId} {cs : List Value} (h : Own8 w base v xs) (hk : Blk w g t cs) (ht : (t == 5) = false) (hg : w.grownBy w' (some g)) : Own8 w' base v xs := by
 refine World.ownsRow.kept h hg ?_
 rcases h.2 with ⟨rfl, _⟩ | ⟨g', cap', cur', rfl, _, hh, _⟩
 · exact .inl rfl
 · refine .inr fun e => ?_
   simp [Value.ownBlock] at e
   subst e
   have hk' : w.heap[g']? = _ := hk
   rw [hh] at hk'
   injection hk' with hh'
   injection hh' with _ ht' _
   subst ht'
   cases ht
theorem built_entN (s : ByteArray) : Tryd.prog.built 45 [(0, .string s)] = some (Value.string s :: (capCells CapD.none_ (.slice none 0 0) ++ (capCells CapD.none_ (.slice none 0 0) ++ [.bool false]))).toArray := by kernel_rfl
section
variable {o : Oper} {a : Act} {w : World} {K : Act → World → Prop} {Q : Exit → Act → World → Prop}
theorem exec_int_u8 (x : Operand) (p : Int) (hx : a.eval x = .int .i64 p) (ho : o.op = .convert 3 5 x) (h0 : 0 ≤ p) (h1 : p < 256) : (execOp a.eval o).run Tryd.prog w = .ok (.value (.int .u8 p)) w := by
 unfold execOp
 simp only [ho, hx]
 go_simp
 have e : IntKind.u8.wrap p = p := by
  simp only [IntKind.wrap, IntKind.signed, IntKind.bits]
  simp
  omega
 first | rw [e] | simp [e]
theorem exec_minG (x y : Operand) (ho : o.op = .call { callee := .builtin .min, args := #[x, y], argTypes := #[3, 3] }) (p q z : Int) (hx : a.eval x = .int .i64 p) (hy : a.eval y = .int .i64 q) (hz : min p q = z) : (execOp a.eval o).run Tryd.prog w = .ok (.value (.int .i64 z)) w := by
 subst hz
 unfold execOp
 simp only [ho, resolve, invoke, builtin, Sem.run_bind, Sem.run_pure, Result.andThen_ok, List.map_toArray, List.map_cons, List.map_nil, hx, hy]
 go_simp
theorem wp_alloc_blkG {P : Program} (t d : Nat) (ho : o.op = .alloc t) (hd : o.dst = some d) (cs : List Value)
 (hz : (P.info? t).map (·.zero) = some (some (.agg cs.toArray)))
 (h : ∀ g w', w.heap.size ≤ g → Blk w' g t cs → Below w.heap.size w w' → K (a.put (some d) (.pointer (some ⟨g, 0, none⟩))) w') : o.wp P a w K Q :=
 wp_alloc_blkD t d ho hd cs hz fun w' h1 h2 _ => h _ w' (Nat.le_refl _) h1 h2
end
end Go.Proofs.YthdjgebbjogmiaaDoor

namespace Go.Proofs.YthdjgebbjogmiaaDoor
open Go Go.RowKit
set_option maxRecDepth 100000

theorem valid_turn {c : CapD} (h : c.Valid) (h3 : c.kind ≠ 3) (k' : Int) (x : List Int) (hk : (c.kind ≤ 2 ∧ 1 ≤ k' ∧ k' ≤ 2) ∨ (4 ≤ c.kind ∧ 4 ≤ k' ∧ k' ≤ 9)) : CapD.Valid { c with kind := k', key := x } := by
 unfold CapD.Valid at h ⊢
 rcases h with ⟨h1, h2⟩ | ⟨h1, h2⟩ | ⟨h1, h2⟩
 · left
   exact ⟨by show k' = 1 ∨ k' = 2; omega, h2⟩
 · exact absurd h1 h3
 · right; right
   exact ⟨by show 4 ≤ k'; omega, by show k' ≤ 9; omega, h2.2⟩
theorem writeF_valid {c : CapD} (h : c.Valid) : writeF c = decide (c.kind = 4 ∨ c.kind = 7) := by
 unfold writeF
 rw [decide_eq_true h, Bool.eq_iff_iff]
 simp
end Go.Proofs.YthdjgebbjogmiaaDoor

namespace Go.Proofs.YthdjgebbjogmiaaDoor
open Go Go.RowKit
set_option maxRecDepth 100000
set_option linter.unusedVariables false
def rcapE (x : EntD) : CapD := if (!readF (rightF x.read)) || x.has then slotF x.read.key x.read.fp else rightF x.read
def rightE (i : Nat) (x : EntD) : EntD := ⟨(97 + (i : Int)) :: x.name.take 10, roF (rcapE x), if writeF (rcapE x) && x.has then rcapE x else CapD.none_, writeF (rcapE x) && x.has⟩
def rightsN (l : List EntD) (k : Nat) : List EntD := (List.range k).map fun i => rightE i (l.getD i EntD.none_)
def rightsL (l : List EntD) : List EntD := rightsN l (min l.length 6)
theorem rightsN_snoc (l : List EntD) (k : Nat) (h : k < l.length) : rightsN l (k + 1) = rightsN l k ++ [rightE k l[k]] := by
 unfold rightsN
 rw [List.range_succ, List.map_append, List.map_singleton, List.getD_eq_getElem?_getD, List.getElem?_eq_getElem h]
 rfl
theorem rightsN_len (l : List EntD) (k : Nat) : (rightsN l k).length = k := by simp [rightsN]
theorem slotF_valid (k f : List Int) : (slotF k f).Valid := .inr (.inr ⟨by show (4 : Int) ≤ 4; omega, by show (4 : Int) ≤ 9; omega, rfl, rfl, rfl, rfl⟩)
theorem slotF_write (k f : List Int) : writeF (slotF k f) = true := by rw [writeF_valid (slotF_valid k f)]; rfl
theorem slotF_read (k f : List Int) : readF (slotF k f) = true := write_read (slotF_write k f)
theorem slotF_wf {k f : List Int} (h : f.length = 32) (hb : Bytes f) : (slotF k f).Wf := ⟨keyF_len _ _, keyF_bytes _ _, h, hb, fun x hx => by cases hx⟩
theorem rcap_wf {x : EntD} (h : x.Wf) : (rcapE x).Wf := by
 unfold rcapE
 split
 · exact slotF_wf h.rWf.fpL h.rWf.fpB
 · exact right_wf h.rWf
theorem rcap_read (x : EntD) : readF (rcapE x) = true := by
 unfold rcapE
 split
 · exact slotF_read _ _
 · rename_i h
   cases hr : readF (rightF x.read)
   · rw [hr] at h; exact absurd rfl h
   · rfl
theorem ro_ok {c : CapD} (h : readF c = true) : (roF c).Valid ∧ writeF (roF c) = false := by
 have hv := (readF_kind h).1
 unfold roF
 rw [if_pos h]
 split
 · rename_i hw
   obtain ⟨hk, _, hl⟩ := writeF_kind hw
   have hv2 : CapD.Valid { c with kind := c.kind + 1, key := keyF tRead c.key } := valid_turn hv (by omega) _ _ (by omega)
   refine ⟨hv2, ?_⟩
   rw [writeF_valid hv2]
   exact decide_eq_false (by show ¬ (c.kind + 1 = 4 ∨ c.kind + 1 = 7); omega)
 · rename_i hw
   exact ⟨hv, by simpa using hw⟩
theorem rightE_wf {i : Nat} (hi : i < 6) {x : EntD} (h : x.Wf) : (rightE i x).Wf := ⟨fun y hy => by
 rcases List.mem_cons.1 hy with rfl | hy
 · omega
 · exact h.nameB y (List.mem_of_mem_take hy), roF_wf (rcap_wf h), by
 unfold rightE
 dsimp only
 split
 · exact rcap_wf h
 · exact CapD.none_wf⟩
theorem rightE_one {i : Nat} {x : EntD} : oneB (rightE i x) = true := by
 have hro := ro_ok (rcap_read x)
 refine (oneB_iff _).2 ⟨⟨by unfold rightE; simp, by unfold rightE; simp only [List.length_cons]; have := List.length_take_le 10 x.name; omega⟩, hro.1, hro.2, fun h => ?_, fun h => ?_⟩
 · have h' : (writeF (rcapE x) && x.has) = true := h
   unfold rightE
   simp only [h', if_true]
   rw [Bool.and_eq_true] at h'
   exact ⟨h'.1, trivial⟩
 · have h' : (writeF (rcapE x) && x.has) = false := h
   unfold rightE
   simp only [h', Bool.false_eq_true, if_false]
theorem rights_mem {l : List EntD} {e : EntD} (h : e ∈ rightsL l) : ∃ i, i < 6 ∧ ∃ x ∈ l, e = rightE i x := by
 unfold rightsL rightsN at h
 obtain ⟨i, hi, rfl⟩ := List.mem_map.1 h
 have hi' := List.mem_range.1 hi
 refine ⟨i, by omega, l[i]'(by omega), List.getElem_mem _, ?_⟩
 rw [List.getD_eq_getElem?_getD, List.getElem?_eq_getElem (by omega)]
 rfl
theorem rights_right (l : List EntD) : rightB (rightsL l) = true := by
 refine (rightB_iff _).2 ⟨fun e he => ?_, ?_, ?_⟩
 · obtain ⟨i, hi, x, hx, rfl⟩ := rights_mem he
   exact rightE_one
 · unfold Rise rightsL rightsN
   rw [List.pairwise_map]
   refine List.Pairwise.imp ?_ List.pairwise_lt_range
   intro i j hij
   show (decide ((97 + (i : Int)) < 97 + (j : Int)) || _) = true
   rw [decide_eq_true (by omega)]
   rfl
 · unfold rightsL
   rw [rightsN_len]
   omega
theorem rights_lit {l : List EntD} : ∀ e ∈ rightsL l, e.read.lit.length ≤ 1000000 ∧ e.write.lit.length ≤ 1000000 := fun e he => by
 obtain ⟨i, hi, x, hx, rfl⟩ := rights_mem he
 have h1 : (roF (rcapE x)).lit.length ≤ 64 := roF_lit_le
 refine ⟨by show (roF (rcapE x)).lit.length ≤ _; omega, ?_⟩
 unfold rightE
 dsimp only
 split
 · rename_i hw
   rw [Bool.and_eq_true] at hw
   have := (writeF_kind hw.1).2.2
   rw [this]
   simp
 · simp [CapD.none_]
end Go.Proofs.YthdjgebbjogmiaaDoor
