/- Entries in a block: capabilities and the flag written into them; small operations. No condition.
What may only read, only verify: from less to more no way leads. No program in sight.
Entries that may be, made of any: the plain law. No program in sight but for the words.
caps.Slot: a slot's capability, of a seed and a print. Condition: the table of powers of ten stands. -/
import Derived.Test.YthdjgebbjogmiaaDoorJoin27
import Derived.Test.YthdjgebbjogmiaaDoorJoin20
import Derived.Test.YthdjgebbjogmiaaDoorJoin19
import Derived.Test.YthdjgebbjogmiaaDoorJoin15
import Derived.Test.YthdjgebbjogmiaaDoorRight
import Derived.Test.YthdjgebbjogmiaaDoorJoin21
import Derived.Test.YthdjgebbjogmiaaDoorCapRO
namespace Go.Proofs.YthdjgebbjogmiaaDoor
open Go Go.RowKit
set_option linter.unusedVariables false
set_option maxRecDepth 100000
section
variable {e : EntD} {x y : Value}
theorem ent_setRead (h1 : LenE e) (c : CapD) (l : Value) (hk : c.key.length = 16) (hf : c.fp.length = 32) : lset (entC e x y) 1 (capCells c l) = entC { e with read := c } l y := by
 have := lset_app (capCells c l) [Value.string (strOfNums e.name)] (capCells e.write y ++ [.bool e.has]) (capCells e.read x) (by rw [cc_len x h1.rk h1.rf, cc_len l hk hf])
 exact this
theorem ent_setWrite (h1 : LenE e) (h2 : LenW e) (c : CapD) (l : Value) (hk : c.key.length = 16) (hf : c.fp.length = 32) : lset (entC e x y) 54 (capCells c l) = entC { e with write := c } x l := by
 have := lset_app (capCells c l) (Value.string (strOfNums e.name) :: capCells e.read x) [.bool e.has] (capCells e.write y) (by rw [cc_len y h2.wk h2.wf, cc_len l hk hf])
 rw [List.length_cons, cc_len x h1.rk h1.rf] at this
 exact this
theorem ent_setHas (h1 : LenE e) (h2 : LenW e) (b : Bool) : (entC e x y).set 107 (.bool b) = entC { e with has := b } x y := by
 unfold entC
 rw [List.set_cons_succ, List.set_append_right _ _ (by rw [cc_len x h1.rk h1.rf]; omega), cc_len x h1.rk h1.rf, List.set_append_right _ _ (by rw [cc_len y h2.wk h2.wf]; omega), cc_len y h2.wk h2.wf]
 rfl
theorem cap_ones {c : CapD} {l : Value} (h : l.oneCell' = true) : ∀ u ∈ capCells c l, u.oneCell' = true := cc_ones h
theorem size_capL {c : CapD} {l : Value} (hk : c.key.length = 16) (hf : c.fp.length = 32) : (Tryd.prog.info? 28).map (·.size) = some (capCells c l).length := by rw [cc_len l hk hf]; exact size_cap
theorem size_entL {e : EntD} {x y : Value} (h1 : LenE e) (h2 : LenW e) : (Tryd.prog.info? 45).map (·.size) = some (entC e x y).length := by rw [ent_lenL h1 h2]; exact size_ent
theorem none_LE : LenE EntD.none_ ∧ LenW EntD.none_ := ⟨⟨rfl, rfl⟩, ⟨rfl, rfl⟩⟩
theorem EntD.Wf.lens {e : EntD} (h : e.Wf) : LenE e ∧ LenW e := ⟨⟨h.rWf.keyL, h.rWf.fpL⟩, ⟨h.wWf.keyL, h.wWf.fpL⟩⟩
end
theorem Own8.past_ {w w' : World} {base g : Nat} {v : Value} {xs : List Int} {t : TypeId} {cs : List Value} (h : Own8 w base v xs) (hk : Blk w g t cs) (ht : (t == 5) = false) (hg : w.grownBy w' (some g)) : Own8 w' base v xs := by
 refine World.ownsRow.kept h hg ?_
 rcases h.2 with ⟨rfl, _⟩ | ⟨g', cap', cur', rfl, _, hh, _⟩
 · exact .inl rfl
 · refine .inr fun e => ?_
   simp [Value.ownBlock] at e
   subst e
   have hk' : w.heap[g']? = _ := hk
   rw [hh] at hk'
   injection hk' with hh'
   injection hh' with _ ht' _
   subst ht'
   cases ht
theorem built_entN (s : ByteArray) : Tryd.prog.built 45 [(0, .string s)] = some (Value.string s :: (capCells CapD.none_ (.slice none 0 0) ++ (capCells CapD.none_ (.slice none 0 0) ++ [.bool false]))).toArray := by kernel_rfl
section
variable {o : Oper} {a : Act} {w : World} {K : Act → World → Prop} {Q : Exit → Act → World → Prop}
theorem exec_int_u8 (x : Operand) (p : Int) (hx : a.eval x = .int .i64 p) (ho : o.op = .convert 3 5 x) (h0 : 0 ≤ p) (h1 : p < 256) : (execOp a.eval o).run Tryd.prog w = .ok (.value (.int .u8 p)) w := by
 unfold execOp
 simp only [ho, hx]
 go_simp
 have e : IntKind.u8.wrap p = p := by
  simp only [IntKind.wrap, IntKind.signed, IntKind.bits]
  simp
  omega
 first | rw [e] | simp [e]
theorem exec_minG (x y : Operand) (ho : o.op = .call { callee := .builtin .min, args := #[x, y], argTypes := #[3, 3] }) (p q z : Int) (hx : a.eval x = .int .i64 p) (hy : a.eval y = .int .i64 q) (hz : min p q = z) : (execOp a.eval o).run Tryd.prog w = .ok (.value (.int .i64 z)) w := by
 subst hz
 unfold execOp
 simp only [ho, resolve, invoke, builtin, Sem.run_bind, Sem.run_pure, Result.andThen_ok, List.map_toArray, List.map_cons, List.map_nil, hx, hy]
 go_simp
theorem wp_alloc_blkG {P : Program} (t d : Nat) (ho : o.op = .alloc t) (hd : o.dst = some d) (cs : List Value)
 (hz : (P.info? t).map (·.zero) = some (some (.agg cs.toArray)))
 (h : ∀ g w', w.heap.size ≤ g → Blk w' g t cs → Below w.heap.size w w' → K (a.put (some d) (.pointer (some ⟨g, 0, none⟩))) w') : o.wp P a w K Q :=
 wp_alloc_blkD t d ho hd cs hz fun w' h1 h2 _ => h _ w' (Nat.le_refl _) h1 h2
end
end Go.Proofs.YthdjgebbjogmiaaDoor

namespace Go.Proofs.YthdjgebbjogmiaaDoor
open Go Go.RowKit
set_option maxRecDepth 100000

theorem valid_turn {c : CapD} (h : c.Valid) (h3 : c.kind ≠ 3) (k' : Int) (x : List Int) (hk : (c.kind ≤ 2 ∧ 1 ≤ k' ∧ k' ≤ 2) ∨ (4 ≤ c.kind ∧ 4 ≤ k' ∧ k' ≤ 9)) : CapD.Valid { c with kind := k', key := x } := by
 unfold CapD.Valid at h ⊢
 rcases h with ⟨h1, h2⟩ | ⟨h1, h2⟩ | ⟨h1, h2⟩
 · left
   exact ⟨by show k' = 1 ∨ k' = 2; omega, h2⟩
 · exact absurd h1 h3
 · right; right
   exact ⟨by show 4 ≤ k'; omega, by show k' ≤ 9; omega, h2.2⟩
theorem readF_valid {c : CapD} (h : c.Valid) : readF c = decide (c.kind ≠ 2 ∧ c.kind ≠ 6 ∧ c.kind ≠ 9) := by
 unfold readF
 rw [decide_eq_true h, Bool.eq_iff_iff]
 simp
theorem writeF_valid {c : CapD} (h : c.Valid) : writeF c = decide (c.kind = 4 ∨ c.kind = 7) := by
 unfold writeF
 rw [decide_eq_true h, Bool.eq_iff_iff]
 simp
theorem roF_self {c : CapD} (hr : readF c = true) (hw : writeF c = false) : roF c = c := by
 unfold roF
 rw [if_pos hr, if_neg (by rw [hw]; simp)]
theorem voF_read {c : CapD} (hok : (decide c.Valid && (c.kind != 3)) = true) (hr : readF c = true) : voF c = { roF c with kind := (roF c).kind + 1, key := keyF tIndex (roF c).key } := by
 unfold voF
 rw [if_pos hok, if_pos hr]
theorem readF_none : readF CapD.none_ = false := by decide
/-- What is valid and may not read is its own verifier. -/
theorem vo_self {c : CapD} (h : c.Valid) (h3 : c.kind ≠ 3) (hr : readF c = false) : voF c = c ∧ voE c = 0 := by
 have hok : (decide c.Valid && (c.kind != 3)) = true := by rw [decide_eq_true h]; simp [h3]
 unfold voF voE
 rw [if_pos hok, if_pos hok, if_neg (by rw [hr]; simp)]
 exact ⟨rfl, rfl⟩
theorem ro_not {c : CapD} (hr : readF c = false) : roF c = CapD.none_ ∧ roE c = 11 := by
 unfold roF roE
 rw [if_neg (by rw [hr]; simp), if_neg (by rw [hr]; simp)]
 exact ⟨rfl, rfl⟩
/-- What may only read: it is valid, reads, does not write; it is its own reader. -/
theorem ro_read {c : CapD} (hr : readF c = true) (h3 : c.kind ≠ 3) :
 roE c = 0 ∧ (roF c).Valid ∧ (roF c).kind ≠ 3 ∧ readF (roF c) = true ∧ writeF (roF c) = false ∧ roF (roF c) = roF c ∧ roE (roF c) = 0 ∧ enE (roF c) = 11 ∧ (roF c).fp = c.fp := by
 have hv := (readF_kind hr).1
 have hk := (readF_kind hr).2
 have hb := valid_kind hv
 have main : (roF c).Valid ∧ (roF c).kind ≠ 3 ∧ readF (roF c) = true ∧ writeF (roF c) = false ∧ (roF c).fp = c.fp := by
  unfold roF
  rw [if_pos hr]
  by_cases hw : writeF c = true
  · rw [if_pos hw]
    have hwk := (writeF_kind hw).1
    have hv2 := valid_turn hv h3 (c.kind + 1) (keyF tRead c.key) (by omega)
    refine ⟨hv2, by show c.kind + 1 ≠ 3; omega, ?_, ?_, rfl⟩
    · rw [readF_valid hv2]
      exact decide_eq_true (show c.kind + 1 ≠ 2 ∧ c.kind + 1 ≠ 6 ∧ c.kind + 1 ≠ 9 by omega)
    · rw [writeF_valid hv2]
      exact decide_eq_false (show ¬ (c.kind + 1 = 4 ∨ c.kind + 1 = 7) by omega)
  · rw [if_neg hw]
    exact ⟨hv, h3, hr, by simpa using hw, rfl⟩
 obtain ⟨m1, m2, m3, m4, m5⟩ := main
 have e1 : roE c = 0 := by unfold roE; rw [if_pos hr]
 have e2 : roE (roF c) = 0 := by unfold roE; rw [if_pos m3]
 have e3 : enE (roF c) = 11 := by unfold enE; rw [if_neg (by rw [m4]; simp)]
 have e4 : roF (roF c) = roF c := roF_self m3 m4
 exact ⟨e1, m1, m2, m3, m4, e4, e2, e3, m5⟩
/-- What may only verify: it is valid, neither reads nor writes; it is its own verifier; of a capability and of what may only read it it is one. -/
theorem vo_laws {c : CapD} (h : c.Valid) (h3 : c.kind ≠ 3) :
 voE c = 0 ∧ (voF c).Valid ∧ (voF c).kind ≠ 3 ∧ readF (voF c) = false ∧ writeF (voF c) = false ∧ (voF c).fp = c.fp := by
 have hok : (decide c.Valid && (c.kind != 3)) = true := by rw [decide_eq_true h]; simp [h3]
 have e1 : voE c = 0 := by unfold voE; rw [if_pos hok]
 refine ⟨e1, ?_⟩
 by_cases hr : readF c = true
 · obtain ⟨_, r1, r2, r3, r4, _, _, _, r5⟩ := ro_read hr h3
   have hrk := (readF_kind r3).2
   have hb := valid_kind r1
   have hwk : ¬ ((roF c).kind = 4 ∨ (roF c).kind = 7) := by
    rw [writeF_valid r1] at r4
    exact of_decide_eq_false r4
   have hv2 := valid_turn r1 r2 ((roF c).kind + 1) (keyF tIndex (roF c).key) (by omega)
   have e : voF c = { roF c with kind := (roF c).kind + 1, key := keyF tIndex (roF c).key } := by unfold voF; rw [if_pos hok, if_pos hr]
   rw [e]
   refine ⟨hv2, by show (roF c).kind + 1 ≠ 3; omega, ?_, ?_, r5⟩
   · rw [readF_valid hv2]
     exact decide_eq_false (show ¬ ((roF c).kind + 1 ≠ 2 ∧ (roF c).kind + 1 ≠ 6 ∧ (roF c).kind + 1 ≠ 9) by omega)
   · rw [writeF_valid hv2]
     exact decide_eq_false (show ¬ ((roF c).kind + 1 = 4 ∨ (roF c).kind + 1 = 7) by omega)
 · have hr' : readF c = false := by simpa using hr
   rw [(vo_self h h3 hr').1]
   refine ⟨h, h3, hr', ?_, rfl⟩
   by_cases hw : writeF c = true
   · exact absurd (write_read hw) hr
   · simpa using hw
theorem vo_ro {c : CapD} (hr : readF c = true) (h3 : c.kind ≠ 3) : voF (roF c) = voF c ∧ voE (roF c) = 0 := by
 obtain ⟨_, r1, r2, r3, _, r4, _⟩ := ro_read hr h3
 have hv := (readF_kind hr).1
 have hok : (decide c.Valid && (c.kind != 3)) = true := by rw [decide_eq_true hv]; simp [h3]
 have hok2 : (decide (roF c).Valid && ((roF c).kind != 3)) = true := by rw [decide_eq_true r1]; simp [r2]
 constructor
 · rw [voF_read hok2 r3, r4, voF_read hok hr]
 · unfold voE
   rw [if_pos hok2]
theorem lit_laws {c : CapD} (h : c.Valid) (h3 : c.kind = 3) : voE c = 11 ∧ voF c = CapD.none_ ∧ readF c = true ∧ roF c = c ∧ roE c = 0 := by
 have hr : readF c = true := by
  rw [readF_valid h]
  exact decide_eq_true (by omega)
 have hw : ¬ writeF c = true := by
  rw [writeF_valid h]
  simp
  omega
 have hok : ¬ (decide c.Valid && (c.kind != 3)) = true := by simp [h3]
 refine ⟨?_, ?_, hr, ?_, ?_⟩
 · unfold voE; rw [if_neg hok]
 · unfold voF; rw [if_neg hok]
 · unfold roF; rw [if_pos hr, if_neg hw]
 · unfold roE; rw [if_pos hr]
end Go.Proofs.YthdjgebbjogmiaaDoor

namespace Go.Proofs.YthdjgebbjogmiaaDoor
open Go Go.RowKit
set_option maxRecDepth 100000
set_option linter.unusedVariables false
def rcapE (x : EntD) : CapD := if (!readF (rightF x.read)) || x.has then slotF x.read.key x.read.fp else rightF x.read
def rightE (i : Nat) (x : EntD) : EntD := ⟨(97 + (i : Int)) :: x.name.take 10, roF (rcapE x), if writeF (rcapE x) && x.has then rcapE x else CapD.none_, writeF (rcapE x) && x.has⟩
def rightsN (l : List EntD) (k : Nat) : List EntD := (List.range k).map fun i => rightE i (l.getD i EntD.none_)
def rightsL (l : List EntD) : List EntD := rightsN l (min l.length 6)
theorem rightsN_snoc (l : List EntD) (k : Nat) (h : k < l.length) : rightsN l (k + 1) = rightsN l k ++ [rightE k l[k]] := by
 unfold rightsN
 rw [List.range_succ, List.map_append, List.map_singleton, List.getD_eq_getElem?_getD, List.getElem?_eq_getElem h]
 rfl
theorem rightsN_len (l : List EntD) (k : Nat) : (rightsN l k).length = k := by simp [rightsN]
theorem slotF_valid (k f : List Int) : (slotF k f).Valid := .inr (.inr ⟨by show (4 : Int) ≤ 4; omega, by show (4 : Int) ≤ 9; omega, rfl, rfl, rfl, rfl⟩)
theorem slotF_write (k f : List Int) : writeF (slotF k f) = true := by rw [writeF_valid (slotF_valid k f)]; rfl
theorem slotF_read (k f : List Int) : readF (slotF k f) = true := write_read (slotF_write k f)
theorem slotF_wf {k f : List Int} (h : f.length = 32) (hb : Bytes f) : (slotF k f).Wf := ⟨keyF_len _ _, keyF_bytes _ _, h, hb, fun x hx => by cases hx⟩
theorem rcap_wf {x : EntD} (h : x.Wf) : (rcapE x).Wf := by
 unfold rcapE
 split
 · exact slotF_wf h.rWf.fpL h.rWf.fpB
 · exact right_wf h.rWf
theorem rcap_read (x : EntD) : readF (rcapE x) = true := by
 unfold rcapE
 split
 · exact slotF_read _ _
 · rename_i h
   cases hr : readF (rightF x.read)
   · rw [hr] at h; exact absurd rfl h
   · rfl
theorem rcap_has {x : EntD} (h : x.has = true) : rcapE x = slotF x.read.key x.read.fp := by
 unfold rcapE
 rw [if_pos (by rw [h]; simp)]
theorem ro_ok {c : CapD} (h : readF c = true) : (roF c).Valid ∧ writeF (roF c) = false := by
 have hv := (readF_kind h).1
 unfold roF
 rw [if_pos h]
 split
 · rename_i hw
   obtain ⟨hk, _, hl⟩ := writeF_kind hw
   have hv2 : CapD.Valid { c with kind := c.kind + 1, key := keyF tRead c.key } := valid_turn hv (by omega) _ _ (by omega)
   refine ⟨hv2, ?_⟩
   rw [writeF_valid hv2]
   exact decide_eq_false (by show ¬ (c.kind + 1 = 4 ∨ c.kind + 1 = 7); omega)
 · rename_i hw
   exact ⟨hv, by simpa using hw⟩
theorem rightE_wf {i : Nat} (hi : i < 6) {x : EntD} (h : x.Wf) : (rightE i x).Wf := ⟨fun y hy => by
 rcases List.mem_cons.1 hy with rfl | hy
 · omega
 · exact h.nameB y (List.mem_of_mem_take hy), roF_wf (rcap_wf h), by
 unfold rightE
 dsimp only
 split
 · exact rcap_wf h
 · exact CapD.none_wf⟩
theorem rightE_one {i : Nat} {x : EntD} : oneB (rightE i x) = true := by
 have hro := ro_ok (rcap_read x)
 refine (oneB_iff _).2 ⟨⟨by unfold rightE; simp, by unfold rightE; simp only [List.length_cons]; have := List.length_take_le 10 x.name; omega⟩, hro.1, hro.2, fun h => ?_, fun h => ?_⟩
 · have h' : (writeF (rcapE x) && x.has) = true := h
   unfold rightE
   simp only [h', if_true]
   rw [Bool.and_eq_true] at h'
   exact ⟨h'.1, trivial⟩
 · have h' : (writeF (rcapE x) && x.has) = false := h
   unfold rightE
   simp only [h', Bool.false_eq_true, if_false]
theorem rights_mem {l : List EntD} {e : EntD} (h : e ∈ rightsL l) : ∃ i, i < 6 ∧ ∃ x ∈ l, e = rightE i x := by
 unfold rightsL rightsN at h
 obtain ⟨i, hi, rfl⟩ := List.mem_map.1 h
 have hi' := List.mem_range.1 hi
 refine ⟨i, by omega, l[i]'(by omega), List.getElem_mem _, ?_⟩
 rw [List.getD_eq_getElem?_getD, List.getElem?_eq_getElem (by omega)]
 rfl
theorem rights_wf {l : List EntD} (h : ∀ e ∈ l, e.Wf) : ∀ e ∈ rightsL l, e.Wf := fun e he => by
 obtain ⟨i, hi, x, hx, rfl⟩ := rights_mem he
 exact rightE_wf hi (h x hx)
theorem rights_right (l : List EntD) : rightB (rightsL l) = true := by
 refine (rightB_iff _).2 ⟨fun e he => ?_, ?_, ?_⟩
 · obtain ⟨i, hi, x, hx, rfl⟩ := rights_mem he
   exact rightE_one
 · unfold Rise rightsL rightsN
   rw [List.pairwise_map]
   refine List.Pairwise.imp ?_ List.pairwise_lt_range
   intro i j hij
   show (decide ((97 + (i : Int)) < 97 + (j : Int)) || _) = true
   rw [decide_eq_true (by omega)]
   rfl
 · unfold rightsL
   rw [rightsN_len]
   omega
theorem rights_lit {l : List EntD} : ∀ e ∈ rightsL l, e.read.lit.length ≤ 1000000 ∧ e.write.lit.length ≤ 1000000 := fun e he => by
 obtain ⟨i, hi, x, hx, rfl⟩ := rights_mem he
 have h1 : (roF (rcapE x)).lit.length ≤ 64 := roF_lit_le
 refine ⟨by show (roF (rcapE x)).lit.length ≤ _; omega, ?_⟩
 unfold rightE
 dsimp only
 split
 · rename_i hw
   rw [Bool.and_eq_true] at hw
   have := (writeF_kind hw.1).2.2
   rw [this]
   simp
 · simp [CapD.none_]
end Go.Proofs.YthdjgebbjogmiaaDoor

namespace Go.Proofs.YthdjgebbjogmiaaDoor
open Go Go.RowKit
set_option linter.unusedVariables false
set_option linter.unusedSimpArgs false
set_option maxRecDepth 100000
set_option maxHeartbeats 8000000
theorem list16 (l : List Int) (h : l.length = 16) : ∃ a0 a1 a2 a3 a4 a5 a6 a7 a8 a9 a10 a11 a12 a13 a14 a15 : Int, l = [a0, a1, a2, a3, a4, a5, a6, a7, a8, a9, a10, a11, a12, a13, a14, a15] := by
 match l, h with
 | [a0, a1, a2, a3, a4, a5, a6, a7, a8, a9, a10, a11, a12, a13, a14, a15], _ => exact ⟨a0, a1, a2, a3, a4, a5, a6, a7, a8, a9, a10, a11, a12, a13, a14, a15, rfl⟩
theorem built_slot48 (a0 a1 a2 a3 a4 a5 a6 a7 a8 a9 a10 a11 a12 a13 a14 a15 b0 b1 b2 b3 b4 b5 b6 b7 b8 b9 b10 b11 b12 b13 b14 b15 c0 c1 c2 c3 c4 c5 c6 c7 c8 c9 c10 c11 c12 c13 c14 c15 : Int) : Tryd.prog.built 28 [(0, .int .i64 4), (1, .agg (u8s [a0, a1, a2, a3, a4, a5, a6, a7, a8, a9, a10, a11, a12, a13, a14, a15]).toArray), (2, .agg (u8s [b0, b1, b2, b3, b4, b5, b6, b7, b8, b9, b10, b11, b12, b13, b14, b15, c0, c1, c2, c3, c4, c5, c6, c7, c8, c9, c10, c11, c12, c13, c14, c15]).toArray)] = some (capCells ⟨4, [a0, a1, a2, a3, a4, a5, a6, a7, a8, a9, a10, a11, a12, a13, a14, a15], [b0, b1, b2, b3, b4, b5, b6, b7, b8, b9, b10, b11, b12, b13, b14, b15, c0, c1, c2, c3, c4, c5, c6, c7, c8, c9, c10, c11, c12, c13, c14, c15], 0, 0, 0, []⟩ (.slice none 0 0)).toArray := by kernel_rfl
theorem built_slot (k f : List Int) (hk : k.length = 16) (hf : f.length = 32) : Tryd.prog.built 28 [(0, .int .i64 4), (1, .agg (u8s k).toArray), (2, .agg (u8s f).toArray)] = some (capCells ⟨4, k, f, 0, 0, 0, []⟩ (.slice none 0 0)).toArray := by
 obtain ⟨a0, a1, a2, a3, a4, a5, a6, a7, a8, a9, a10, a11, a12, a13, a14, a15, rfl⟩ := list16 k hk
 have e : f = f.take 16 ++ f.drop 16 := (List.take_append_drop 16 f).symm
 obtain ⟨b0, b1, b2, b3, b4, b5, b6, b7, b8, b9, b10, b11, b12, b13, b14, b15, e1⟩ := list16 (f.take 16) (by rw [List.length_take, hf]; rfl)
 obtain ⟨c0, c1, c2, c3, c4, c5, c6, c7, c8, c9, c10, c11, c12, c13, c14, c15, e2⟩ := list16 (f.drop 16) (by rw [List.length_drop, hf])
 rw [e1, e2] at e
 subst e
 exact built_slot48 a0 a1 a2 a3 a4 a5 a6 a7 a8 a9 a10 a11 a12 a13 a14 a15 b0 b1 b2 b3 b4 b5 b6 b7 b8 b9 b10 b11 b12 b13 b14 b15 c0 c1 c2 c3 c4 c5 c6 c7 c8 c9 c10 c11 c12 c13 c14 c15
theorem exec_build_slot {o : Oper} {a : Act} {w : World} (x y : Operand) (ho : o.op = .build 28 #[(0, .const (.int .i64 4)), (1, x), (2, y)]) (k f : List Int) (hx : a.eval x = .agg (u8s k).toArray) (hy : a.eval y = .agg (u8s f).toArray) (hk : k.length = 16) (hf : f.length = 32) :
 (execOp a.eval o).run Tryd.prog w = .ok (.value (capV ⟨4, k, f, 0, 0, 0, []⟩ (.slice none 0 0))) w := by
 have hm : ((#[(0, .const (.int .i64 4)), (1, x), (2, y)] : Array (Nat × Operand)).map fun (i, x) => (i, a.eval x)).toList = [(0, .int .i64 4), (1, .agg (u8s k).toArray), (2, .agg (u8s f).toArray)] := by
  have hc : a.eval (.const (.int .i64 4)) = .int .i64 4 := rfl
  simp [hx, hy, hc]
 have hr := run_build (P := Tryd.prog) w 28 ((#[(0, .const (.int .i64 4)), (1, x), (2, y)] : Array (Nat × Operand)).map fun (i, x) => (i, a.eval x)) _ (by rw [hm]; exact built_slot k f hk hf)
 unfold execOp
 simp only [ho, Sem.run_bind, hr, Result.andThen_ok, Sem.run_pure]
 rfl
theorem Slot_any (seed fp : List Int) (w : World) (h1 : seed.length = 16) (hb : Bytes seed) (h2 : fp.length = 32) (ht : Tab w w.heap.size) :
 Calls Tryd.prog 27 #[.agg (u8s seed).toArray, .agg (u8s fp).toArray] w fun e w' => e = .returned (capV (slotF seed fp) (.slice none 0 0)) ∧ Below w.heap.size w w' := by
 have H1 := hide h1
 have H2 := hide h2
 have HT := hide ht
 obtain ⟨KR, HKR0⟩ : ∃ x, Hid (keyF tWrite seed = x) := ⟨_, hide rfl⟩
 have HKL := hide (show KR.length = 16 by rw [← HKR0.out]; exact keyF_len _ _)
 obtain ⟨KRV, HKR⟩ : ∃ x, Hid (Value.agg (u8s KR).toArray = x) := ⟨_, hide rfl⟩
 obtain ⟨KV, HKV⟩ : ∃ x, Hid (Value.agg (u8s seed).toArray = x) := ⟨_, hide rfl⟩
 obtain ⟨FV, HFV⟩ : ∃ x, Hid (Value.agg (u8s fp).toArray = x) := ⟨_, hide rfl⟩
 have HSH := hide (fun w' (ht : Tab w' w'.heap.size) => by have := short_any tWrite seed w' h1 hb (by decide) ht; rw [HKV.out, HKR0.out, HKR.out] at this; exact this)
 have HSF := hide (show slotF seed fp = ⟨4, KR, fp, 0, 0, 0, []⟩ by unfold slotF; rw [HKR0.out])
 rw [HSF.out, HKV.out, HFV.out]
 clear h1 hb h2 ht
 go_enter Tryd.func27, Tryd.ntmps27
 obtain ⟨g, hg⟩ : ∃ n, w.heap.size = n := ⟨_, rfl⟩
 go_upto_region 1 with (first
  | (refine wpList_box_key _ rfl seed HKV.out.symm rfl ?_; intro w1 hb1 hw1 hs1; rw [hg] at hb1 ⊢; have HA := hide hb1; have HW := hide hw1; clear hb1 hw1)
  | (refine wpList_box_hash _ rfl fp HFV.out.symm rfl ?_; intro w2 hb2 hw2 hs2; have hg2 : w1.heap.size = g + 1 := (by omega); rw [hg2] at hb2; try rw [hg2]; have HF := hide hb2; replace HA := hide (HA.out.below hw2 HA.out.lt); replace HW := hide (HW.out.trans (hw2.mono HW.out.size)); clear hb2 hw2)
  | (refine wpList_cap_zero rfl rfl ?_; intro w3 hb3 hw3 hs3; have hg3 : w2.heap.size = g + 1 + 1 := (by omega); rw [hg3] at hb3; try rw [hg3]; have HZ := hide hb3; replace HA := hide (HA.out.below hw3 HA.out.lt); replace HF := hide (HF.out.below hw3 HF.out.lt); replace HW := hide (HW.out.trans (hw3.mono HW.out.size)); clear hb3 hw3))
 refine wp_region_held_drew (S := fun w' => Below w.heap.size w w' ∧ Blk w' g 23 (u8s seed) ∧ Blk w' (g + 1) 25 (u8s fp)) (by kernel_rfl) ⟨HW.out.drew, HA.out.drew, HF.out.drew⟩ (fun hHeld => ?_)
 replace HZ := hide (HZ.out.below ((Below.refl _ _).drew) HZ.out.lt)
 refine take_e 5 (i := 0) (v := KV) rfl (by kernel_rfl) (Or.inl ⟨by kernel_rfl, fun w' hS => exec_load_arr _ _ rfl g 0 rfl _ (u8s seed) (blk_range hS.2.1 0 _ (fun j u hu => by rw [Nat.zero_add]; exact hu)) Tryd.underlying23 rfl (by rw [u8s_len, H1.out]; exact size_key) |>.trans (by rw [HKV.out])⟩) hHeld ?_
 try simp only [Act.put, s1_, s2_, s3_]
 refine take_e 7 (i := 2) (v := FV) rfl (by kernel_rfl) (Or.inl ⟨by kernel_rfl, fun w' hS => exec_load_arr _ _ rfl (g + 1) 0 rfl _ (u8s fp) (blk_range hS.2.2 0 _ (fun j u hu => by rw [Nat.zero_add]; exact hu)) Tryd.underlying25 rfl (by rw [u8s_len, H2.out]; exact size_hash) |>.trans (by rw [HFV.out])⟩) hHeld ?_
 try simp only [Act.put, s1_, s2_, s3_]
 refine wpAnyH_ready (rs := [1]) (by kernel_rfl) (by simp) (AllReadyH.cons rfl (fun K hK => ?_) AllReadyH.nil)
 rw [if_pos (by kernel_rfl)]
 try go_simp
 refine (HSH.out _ ((HT.out.below hHeld.1 (Nat.le_refl _)).more hHeld.1.size)).mono ?_
 rintro e wc ⟨rfl, hb⟩
 have hsz := hHeld.1.size
 have HX := hide (show Below w.heap.size w wc ∧ Blk wc g 23 (u8s seed) ∧ Blk wc (g + 1) 25 (u8s fp) from ⟨hHeld.1.trans (hb.mono hsz), hHeld.2.1.below hb hHeld.2.1.lt, hHeld.2.2.below hb hHeld.2.2.lt⟩)
 replace HZ := hide (HZ.out.below hb HZ.out.lt)
 clear hb
 refine hK.out _ _ HX.out (fun hHeld => ?_)
 clear HX hK K
 try simp only [Act.put, s1_, s2_, s3_]
 refine take_e 8 (i := 3) (v := (capV ⟨4, KR, fp, 0, 0, 0, []⟩ (.slice none 0 0))) rfl (by kernel_rfl) (Or.inl ⟨by kernel_rfl, fun w' hS => exec_build_slot _ _ rfl KR fp (by exact HKR.out.symm) (by exact HFV.out.symm) HKL.out H2.out⟩) hHeld ?_
 try simp only [Act.put, s1_, s2_, s3_]
 refine wpAnyH_ready (rs := [4]) (by kernel_rfl) (by simp) (AllReadyH.cons rfl (fun K hK => ?_) AllReadyH.nil)
 rw [if_pos (by kernel_rfl)]
 refine wp_cap_putAllD rfl _ _ rfl rfl HZ.out ⟨4, KR, fp, 0, 0, 0, []⟩ (.slice none 0 0) rfl HKL.out H2.out rfl ?_
 intro ws hb5 hg5 hs5
 replace HZ := hide hb5
 have HX := hide (show Below w.heap.size w ws ∧ Blk ws g 23 (u8s seed) ∧ Blk ws (g + 1) 25 (u8s fp) from ⟨hHeld.1.grown hg5 hHeld.1.size (by intro k hk; simp at hk; omega), hHeld.2.1.grown hg5 (by intro h; injection h with h; omega), hHeld.2.2.grown hg5 (by intro h; injection h with h; omega)⟩)
 clear hb5 hg5 hs5
 refine hK.out _ _ HX.out (fun hHeld => ?_)
 clear HX hK K
 try simp only [Act.put, s1_, s2_, s3_]
 refine wpAnyH_done (by kernel_rfl) ?_ _
 replace HW := hide hHeld.1
 clear hHeld
 go_wp2_with fail
 refine bodyPost_ret (v := capV ⟨4, KR, fp, 0, 0, 0, []⟩ (.slice none 0 0)) (results_cell_row rfl _ _ (g + 1 + 1) 28 (capCells ⟨4, KR, fp, 0, 0, 0, []⟩ (.slice none 0 0)).toArray (0, 0) _ rfl HZ.out.blk Tryd.underlying28 rfl (by rw [List.size_toArray, cc_len _ HZ.out.keyL HZ.out.fpL]; exact size_cap)) rfl ?_
 exact ⟨rfl, HW.out⟩
end Go.Proofs.YthdjgebbjogmiaaDoor
