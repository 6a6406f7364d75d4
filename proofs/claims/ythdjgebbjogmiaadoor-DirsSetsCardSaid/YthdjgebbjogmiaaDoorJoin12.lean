/- What of a capability another one is made of: its keys by hashes; what may only read, only verify; a directory's; secrets. No program in sight.
A capability's fields inside a walk: one law for every load, one for every field's address. No condition.
bytes.Equal; caps.Same and aumbrykeep.Cap: are all fields one? Condition: at most 1000 bytes in a literal.
An entry as data. No program in sight. -/
import Derived.Test.YthdjgebbjogmiaaDoorJoin8
import Derived.Test.YthdjgebbjogmiaaDoorJoin11
import Derived.Test.YthdjgebbjogmiaaDoorJoin7
import Derived.Test.YthdjgebbjogmiaaDoorJoin3
import Derived.Test.YthdjgebbjogmiaaDoorJoin2
import Derived.Test.YthdjgebbjogmiaaDoorJoin9
import Derived.Test.YthdjgebbjogmiaaDoorJoin5
set_option linter.unusedVariables false
set_option linter.unusedSimpArgs false
namespace Go.Proofs.YthdjgebbjogmiaaDoor
open Go Go.RowKit
set_option maxRecDepth 100000

def tRead : ByteArray := { data := #[114, 101, 97, 100] }
def tWrite : ByteArray := { data := #[119, 114, 105, 116, 101] }
/-- The key that a tag and a key make. -/
def keyF (s : ByteArray) (k : List Int) : List Int := shortF (strB s) [k]
theorem keyF_len (s : ByteArray) (k : List Int) : (keyF s k).length = 16 := shortF_len _ _
theorem keyF_bytes (s : ByteArray) (k : List Int) : Bytes (keyF s k) := shortF_bytes _ _
/-- What may only read the same. -/
def roF (c : CapD) : CapD := if readF c then (if writeF c then { c with kind := c.kind + 1, key := keyF tRead c.key } else c) else CapD.none_
def roE (c : CapD) : Int := if readF c then 0 else 11
def slotF (seed fp : List Int) : CapD := ⟨4, keyF tWrite seed, fp, 0, 0, 0, []⟩
theorem writeF_kind {c : CapD} (h : writeF c = true) : (c.kind = 4 ∨ c.kind = 7) ∧ c.Valid ∧ c.lit = [] := by
 unfold writeF at h
 simp at h
 refine ⟨h.2, h.1, ?_⟩
 have hv := h.1
 unfold CapD.Valid at hv
 refine List.eq_nil_of_length_eq_zero ?_
 rcases hv with ⟨h1, h2⟩ | ⟨h1, h2⟩ | ⟨h1, h2⟩ <;> omega
theorem valid_kind {c : CapD} (h : c.Valid) : 1 ≤ c.kind ∧ c.kind ≤ 9 := by
 unfold CapD.Valid at h
 rcases h with ⟨h1, h2⟩ | ⟨h1, h2⟩ | ⟨h1, h2⟩ <;> omega
theorem readF_kind {c : CapD} (h : readF c = true) : c.Valid ∧ c.kind ≠ 2 ∧ c.kind ≠ 6 ∧ c.kind ≠ 9 := by
 unfold readF at h
 simp at h
 exact h
theorem roF_wf {c : CapD} (h : c.Wf) : (roF c).Wf := by
 unfold roF
 split
 · split
   · exact ⟨keyF_len _ _, keyF_bytes _ _, h.fpL, h.fpB, h.litB⟩
   · exact h
 · exact CapD.none_wf
theorem roF_lit_le {c : CapD} : (roF c).lit.length ≤ 64 := by
 by_cases hr : readF c = true
 · have hv := (readF_kind hr).1
   have : c.lit.length ≤ 64 := by
    unfold CapD.Valid at hv
    rcases hv with ⟨h1, h2⟩ | ⟨h1, h2⟩ | ⟨h1, h2⟩ <;> omega
   unfold roF
   rw [if_pos hr]
   split <;> exact this
 · unfold roF
   rw [if_neg hr]
   simp [CapD.none_]
end Go.Proofs.YthdjgebbjogmiaaDoor

namespace Go.Proofs.YthdjgebbjogmiaaDoor
open Go Go.RowKit
set_option maxRecDepth 100000

section
variable {ops : Array Oper} {rest : List Oper} {o : Oper} {a : Act} {w : World} {Q : Exit → Act → World → Prop} {g : Nat} {c : CapD} {lit : Value}
end
end Go.Proofs.YthdjgebbjogmiaaDoor

namespace Go.Proofs.YthdjgebbjogmiaaDoor
open Go Go.RowKit
set_option linter.unusedVariables false
set_option maxRecDepth 100000

set_option maxHeartbeats 1000000 in
theorem equal_bytes (va vb : Value) (xs ys : List Int) (w : World) (B : Nat) (ha : Bs w B va xs) (hb : Bs w B vb ys) (hxa : Bytes xs) (hyb : Bytes ys) :
 Calls Tryd.prog 54 #[va, vb] w fun e w' => e = .returned (.bool (decide (xs = ys))) ∧ Below w.heap.size w w' := by
 have HA := hide ha
 have HB := hide hb
 have HI := hide (strOf_inj hxa hyb)
 clear ha hb hxa hyb
 obtain ⟨X, HX⟩ : ∃ s, Hid (strOfNums xs = s) := ⟨_, hide rfl⟩
 obtain ⟨Y, HY⟩ : ∃ s, Hid (strOfNums ys = s) := ⟨_, hide rfl⟩
 rw [HX.out, HY.out] at HI
 have HBe := hide (Below.refl w.heap.size w)
 have HQ := hide (show (X.toList == Y.toList) = decide (xs = ys) by
  by_cases h : X = Y
  · rw [decide_eq_true (HI.out.1 h), h]; simp
  · rw [str_ne h, decide_eq_false (fun e => h (HI.out.2 e))])
 go_enter Tryd.func54, Tryd.ntmps54
 go_wp2_with (first
  | (refine wpList_to_string rfl (.tmp 5) rfl B va xs rfl HA.out ?_; rw [HX.out])
  | (refine wpList_to_string rfl (.tmp 7) rfl B vb ys rfl HB.out ?_; rw [HY.out]))
 all_goals go_ret
 all_goals exact ⟨by rw [← HQ.out]; rfl, HBe.out⟩

/-- Are all fields one? -/
def sameF (a b : CapD) : Bool := (a.kind == b.kind) && (decide (a.key = b.key) && (decide (a.fp = b.fp) && ((a.K == b.K) && ((a.N == b.N) && ((a.S == b.S) && decide (a.lit = b.lit))))))
theorem sameF_iff (a b : CapD) : sameF a b = true ↔ a = b := by
 obtain ⟨a1, a2, a3, a4, a5, a6, a7⟩ := a
 obtain ⟨b1, b2, b3, b4, b5, b6, b7⟩ := b
 simp [sameF]
set_option maxHeartbeats 8000000 in
theorem same_caps (a b : CapD) (la lb : Value) (w : World) (a1 : a.key.length = 16) (a2 : a.fp.length = 32) (b1 : b.key.length = 16) (b2 : b.fp.length = 32) (ha : Bs w w.heap.size la a.lit) (hb : Bs w w.heap.size lb b.lit) (hab : Bytes a.lit) (hbb : Bytes b.lit) :
 Calls Tryd.prog 32 #[capV a la, capV b lb] w fun e w' => e = .returned (.bool (sameF a b)) ∧ Below w.heap.size w w' := by
 have HA1 := hide a1
 have HA2 := hide a2
 have HB1 := hide b1
 have HB2 := hide b2
 have H3 := hide ha.one
 have H4 := hide hb.one
 obtain ⟨q7, Q7⟩ : ∃ q, Hid (decide (a.lit = b.lit) = q) := ⟨_, hide rfl⟩
 have HC := hide (fun (w' : World) (hw : Below w.heap.size w w') => equal_bytes la lb a.lit b.lit w' w.heap.size (ha.below hw (Nat.le_refl _)) (hb.below hw (Nat.le_refl _)) hab hbb)
 clear a1 a2 b1 b2 ha hb hab hbb
 obtain ⟨VA, HVA⟩ : ∃ x, Hid (capV a la = x) := ⟨_, hide rfl⟩
 obtain ⟨VB, HVB⟩ : ∃ x, Hid (capV b lb = x) := ⟨_, hide rfl⟩
 rw [HVA.out, HVB.out]
 obtain ⟨q1, Q1⟩ : ∃ q, (a.kind == b.kind) = q := ⟨_, rfl⟩
 obtain ⟨q2, Q2⟩ : ∃ q, Hid (decide (a.key = b.key) = q) := ⟨_, hide rfl⟩
 obtain ⟨q3, Q3⟩ : ∃ q, Hid (decide (a.fp = b.fp) = q) := ⟨_, hide rfl⟩
 obtain ⟨q4, Q4⟩ : ∃ q, (a.K == b.K) = q := ⟨_, rfl⟩
 obtain ⟨q5, Q5⟩ : ∃ q, (a.N == b.N) = q := ⟨_, rfl⟩
 obtain ⟨q6, Q6⟩ : ∃ q, (a.S == b.S) = q := ⟨_, rfl⟩
 have HV := hide (show sameF a b = (q1 && (q2 && (q3 && (q4 && (q5 && (q6 && q7)))))) by rw [sameF, Q1, Q2.out, Q3.out, Q4, Q5, Q6, Q7.out])
 rw [Q7.out] at HC
 go_enter Tryd.func32, Tryd.ntmps32
 go_upto_region 1 with (first
  | (refine wpList_cap_new _ rfl (HVA.out.symm) rfl HA1.out HA2.out H3.out ?_; intro w1 hb1 hw1 hs1; have BA := hide hb1; have HW := hide hw1; clear hb1 hw1)
  | (refine wpList_cap_new _ rfl (HVB.out.symm) rfl HB1.out HB2.out H4.out ?_; intro w2 hb2 hw2 hs2; rw [hs1] at hb2; have BB := hide hb2; replace BA := hide (BA.out.below hw2 BA.out.lt); replace HW := hide (HW.out.trans (hw2.mono (by omega))); clear hb2 hw2))
 generalize hg1 : w.heap.size + 1 = g1 at BB ⊢
 generalize hg0 : w.heap.size = g0 at BA ⊢
 have G0 := hide hg0
 have G1 := hide hg1
 clear hg0 hg1
 go_wp2_with (first
  | go_skip
  | (refine wpList_cap_int _ rfl _ rfl rfl BA.out _ rfl ?_)
  | (refine wpList_cap_int _ rfl _ rfl rfl BB.out _ rfl ?_)
  | (refine wpList_cap_key _ rfl rfl rfl BA.out ?_)
  | (refine wpList_cap_key _ rfl rfl rfl BB.out ?_)
  | (refine wpList_cap_fp _ rfl rfl rfl BA.out ?_)
  | (refine wpList_cap_fp _ rfl rfl rfl BB.out ?_)
  | (refine wpList_cap_lit _ rfl rfl rfl BA.out ?_)
  | (refine wpList_cap_lit _ rfl rfl rfl BB.out ?_)
  | (refine wpList_eql_key _ _ _ rfl a.key b.key rfl rfl rfl HA1.out HB1.out _ Q2.out ?_)
  | (refine wpList_eql_hash _ _ _ rfl a.fp b.fp rfl rfl rfl HA2.out HB2.out _ Q3.out ?_)
  | (go_at_call 54; refine (HC.out w2 HW.out).mono ?_; rintro e w3 ⟨rfl, hb3⟩; replace HW := hide (HW.out.trans (hb3.mono HW.out.size)); clear hb3))
 all_goals go_ret
 all_goals refine ⟨?_, HW.out⟩
 all_goals rw [HV.out]
 all_goals refine congrArg Ending.returned (congrArg Value.bool ?_)
 all_goals simp [*]

set_option maxHeartbeats 8000000 in
theorem same_cap (a b : CapD) (la lb : Value) (w : World) (a1 : a.key.length = 16) (a2 : a.fp.length = 32) (b1 : b.key.length = 16) (b2 : b.fp.length = 32) (ha : Bs w w.heap.size la a.lit) (hb : Bs w w.heap.size lb b.lit) (hab : Bytes a.lit) (hbb : Bytes b.lit) :
 Calls Tryd.prog 49 #[capV a la, capV b lb] w fun e w' => e = .returned (.bool (sameF a b)) ∧ Below w.heap.size w w' := by
 have HA1 := hide a1
 have HA2 := hide a2
 have HB1 := hide b1
 have HB2 := hide b2
 have H3 := hide ha.one
 have H4 := hide hb.one
 obtain ⟨q7, Q7⟩ : ∃ q, Hid (decide (a.lit = b.lit) = q) := ⟨_, hide rfl⟩
 have HC := hide (fun (w' : World) (hw : Below w.heap.size w w') => same_bytes la lb a.lit b.lit w' w.heap.size (ha.below hw (Nat.le_refl _)) (hb.below hw (Nat.le_refl _)) hw.size)
 clear a1 a2 b1 b2 ha hb hab hbb
 obtain ⟨VA, HVA⟩ : ∃ x, Hid (capV a la = x) := ⟨_, hide rfl⟩
 obtain ⟨VB, HVB⟩ : ∃ x, Hid (capV b lb = x) := ⟨_, hide rfl⟩
 rw [HVA.out, HVB.out]
 obtain ⟨q1, Q1⟩ : ∃ q, (a.kind == b.kind) = q := ⟨_, rfl⟩
 obtain ⟨q2, Q2⟩ : ∃ q, Hid (decide (a.key = b.key) = q) := ⟨_, hide rfl⟩
 obtain ⟨q3, Q3⟩ : ∃ q, Hid (decide (a.fp = b.fp) = q) := ⟨_, hide rfl⟩
 obtain ⟨q4, Q4⟩ : ∃ q, (a.K == b.K) = q := ⟨_, rfl⟩
 obtain ⟨q5, Q5⟩ : ∃ q, (a.N == b.N) = q := ⟨_, rfl⟩
 obtain ⟨q6, Q6⟩ : ∃ q, (a.S == b.S) = q := ⟨_, rfl⟩
 have HV := hide (show sameF a b = (q1 && (q2 && (q3 && (q4 && (q5 && (q6 && q7)))))) by rw [sameF, Q1, Q2.out, Q3.out, Q4, Q5, Q6, Q7.out])
 rw [Q7.out] at HC
 go_enter Tryd.func49, Tryd.ntmps49
 go_upto_region 1 with (first
  | (refine wpList_cap_new _ rfl (HVA.out.symm) rfl HA1.out HA2.out H3.out ?_; intro w1 hb1 hw1 hs1; have BA := hide hb1; have HW := hide hw1; clear hb1 hw1)
  | (refine wpList_cap_new _ rfl (HVB.out.symm) rfl HB1.out HB2.out H4.out ?_; intro w2 hb2 hw2 hs2; rw [hs1] at hb2; have BB := hide hb2; replace BA := hide (BA.out.below hw2 BA.out.lt); replace HW := hide (HW.out.trans (hw2.mono (by omega))); clear hb2 hw2))
 generalize hg1 : w.heap.size + 1 = g1 at BB ⊢
 generalize hg0 : w.heap.size = g0 at BA ⊢
 have G0 := hide hg0
 have G1 := hide hg1
 clear hg0 hg1
 go_wp2_with (first
  | go_skip
  | (refine wpList_cap_int _ rfl _ rfl rfl BA.out _ rfl ?_)
  | (refine wpList_cap_int _ rfl _ rfl rfl BB.out _ rfl ?_)
  | (refine wpList_cap_key _ rfl rfl rfl BA.out ?_)
  | (refine wpList_cap_key _ rfl rfl rfl BB.out ?_)
  | (refine wpList_cap_fp _ rfl rfl rfl BA.out ?_)
  | (refine wpList_cap_fp _ rfl rfl rfl BB.out ?_)
  | (refine wpList_cap_lit _ rfl rfl rfl BA.out ?_)
  | (refine wpList_cap_lit _ rfl rfl rfl BB.out ?_)
  | (refine wpList_eql_key _ _ _ rfl a.key b.key rfl rfl rfl HA1.out HB1.out _ Q2.out ?_)
  | (refine wpList_eql_hash _ _ _ rfl a.fp b.fp rfl rfl rfl HA2.out HB2.out _ Q3.out ?_)
  | (go_at_call 16; refine (HC.out w2 HW.out).mono ?_; rintro e w3 ⟨rfl, hb3⟩; replace HW := hide (HW.out.trans (hb3.mono HW.out.size)); clear hb3))
 all_goals go_ret
 all_goals refine ⟨?_, HW.out⟩
 all_goals rw [HV.out]
 all_goals refine congrArg Ending.returned (congrArg Value.bool ?_)
 all_goals simp [*]
end Go.Proofs.YthdjgebbjogmiaaDoor

namespace Go.Proofs.YthdjgebbjogmiaaDoor
open Go Go.RowKit
set_option maxRecDepth 100000
/-- An entry as data. -/
structure EntD where
 name : List Int
 read : CapD
 write : CapD
 has : Bool
structure EntD.Wf (e : EntD) : Prop where
 nameB : Bytes e.name
 rWf : e.read.Wf
 wWf : e.write.Wf
def EntD.none_ : EntD := ⟨[], CapD.none_, CapD.none_, false⟩
theorem EntD.none_wf : EntD.none_.Wf := ⟨(fun x hx => by cases hx), CapD.none_wf, CapD.none_wf⟩
end Go.Proofs.YthdjgebbjogmiaaDoor
