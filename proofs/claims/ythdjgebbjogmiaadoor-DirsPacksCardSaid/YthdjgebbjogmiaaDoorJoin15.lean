/- What of a capability another one is made of: its keys by hashes; what may only read, only verify; a directory's; secrets. No program in sight.
A capability's fields inside a walk: one law for every load, one for every field's address. No condition.
bytes.Equal; caps.Same and aumbrykeep.Cap: are all fields one? Condition: at most 1000 bytes in a literal.
An entry as data. No program in sight.
Directories as plain laws: which entries may be, an entry more, one less, one found. No program in sight.
An entry that may be, in plain words. No program in sight.
aes.twice, aes.xor. No condition. -/
import Derived.Test.YthdjgebbjogmiaaDoorJoin8
import Derived.Test.YthdjgebbjogmiaaDoorJoin14
import Derived.Test.YthdjgebbjogmiaaDoorJoin7
import Derived.Test.YthdjgebbjogmiaaDoorJoin3
import Derived.Test.YthdjgebbjogmiaaDoorJoin2
import Derived.Test.YthdjgebbjogmiaaDoorJoin12
import Derived.Test.YthdjgebbjogmiaaDoorCapsLaw
import Derived.Test.YthdjgebbjogmiaaDoorJoin1
import Derived.Test.YthdjgebbjogmiaaDoorRows
import Derived.RegionTactic
import Derived.BigRegion
import Derived.BigQuiet
import Derived.Deep.QuietTactic
namespace Go.Proofs.YthdjgebbjogmiaaDoor
open Go Go.RowKit
set_option maxRecDepth 100000

def tRead : ByteArray := { data := #[114, 101, 97, 100] }
def tIndex : ByteArray := { data := #[105, 110, 100, 101, 120] }
def tWrite : ByteArray := { data := #[119, 114, 105, 116, 101] }
def tEnable : ByteArray := { data := #[101, 110, 97, 98, 108, 101] }
def tRenew : ByteArray := { data := #[114, 101, 110, 101, 119] }
def tOrder : ByteArray := { data := #[111, 114, 100, 101, 114] }
/-- The key that a tag and a key make. -/
def keyF (s : ByteArray) (k : List Int) : List Int := shortF (strB s) [k]
theorem keyF_len (s : ByteArray) (k : List Int) : (keyF s k).length = 16 := shortF_len _ _
theorem keyF_bytes (s : ByteArray) (k : List Int) : Bytes (keyF s k) := shortF_bytes _ _
/-- What may only read the same. -/
def roF (c : CapD) : CapD := if readF c then (if writeF c then { c with kind := c.kind + 1, key := keyF tRead c.key } else c) else CapD.none_
def roE (c : CapD) : Int := if readF c then 0 else 11
/-- What may only verify it. -/
def voF (c : CapD) : CapD := if (decide c.Valid && (c.kind != 3)) then (if readF c then { roF c with kind := (roF c).kind + 1, key := keyF tIndex (roF c).key } else c) else CapD.none_
def voE (c : CapD) : Int := if (decide c.Valid && (c.kind != 3)) then 0 else 11
def ixF (c : CapD) : List Int := (voF c).key
def slotF (seed fp : List Int) : CapD := ⟨4, keyF tWrite seed, fp, 0, 0, 0, []⟩
def dirOk (c : CapD) : Bool := decide c.Valid && (decide (4 ≤ c.kind) && decide (c.kind ≤ 6))
def dirF (c : CapD) : CapD := if dirOk c then { c with kind := c.kind + 3 } else CapD.none_
def dirE (c : CapD) : Int := if dirOk c then 0 else 11
def enF (c : CapD) (n : Int) : List Int := if writeF c then shortF (strB tEnable) [c.key, putF n 2] else zeros 16
def enE (c : CapD) : Int := if writeF c then 0 else 11
def rnF (a b : List Int) (n : Int) : List Int := shortF (strB tRenew) [a, b, putF n 2]
theorem writeF_kind {c : CapD} (h : writeF c = true) : (c.kind = 4 ∨ c.kind = 7) ∧ c.Valid ∧ c.lit = [] := by
 unfold writeF at h
 simp at h
 refine ⟨h.2, h.1, ?_⟩
 have hv := h.1
 unfold CapD.Valid at hv
 refine List.eq_nil_of_length_eq_zero ?_
 rcases hv with ⟨h1, h2⟩ | ⟨h1, h2⟩ | ⟨h1, h2⟩ <;> omega
theorem valid_kind {c : CapD} (h : c.Valid) : 1 ≤ c.kind ∧ c.kind ≤ 9 := by
 unfold CapD.Valid at h
 rcases h with ⟨h1, h2⟩ | ⟨h1, h2⟩ | ⟨h1, h2⟩ <;> omega
theorem valid_lit {c : CapD} (h : c.Valid) (h3 : c.kind ≠ 3) : c.lit = [] := by
 unfold CapD.Valid at h
 refine List.eq_nil_of_length_eq_zero ?_
 rcases h with ⟨h1, h2⟩ | ⟨h1, h2⟩ | ⟨h1, h2⟩ <;> omega
theorem readF_kind {c : CapD} (h : readF c = true) : c.Valid ∧ c.kind ≠ 2 ∧ c.kind ≠ 6 ∧ c.kind ≠ 9 := by
 unfold readF at h
 simp at h
 exact h
theorem write_read {c : CapD} (h : writeF c = true) : readF c = true := by
 have := writeF_kind h
 unfold readF
 simp
 refine ⟨this.2.1, ?_, ?_, ?_⟩ <;> omega
theorem roF_wf {c : CapD} (h : c.Wf) : (roF c).Wf := by
 unfold roF
 split
 · split
   · exact ⟨keyF_len _ _, keyF_bytes _ _, h.fpL, h.fpB, h.litB⟩
   · exact h
 · exact CapD.none_wf
theorem voF_wf {c : CapD} (h : c.Wf) : (voF c).Wf := by
 unfold voF
 split
 · split
   · have := roF_wf h
     exact ⟨keyF_len _ _, keyF_bytes _ _, this.fpL, this.fpB, this.litB⟩
   · exact h
 · exact CapD.none_wf
theorem roF_lit_le {c : CapD} : (roF c).lit.length ≤ 64 := by
 by_cases hr : readF c = true
 · have hv := (readF_kind hr).1
   have : c.lit.length ≤ 64 := by
    unfold CapD.Valid at hv
    rcases hv with ⟨h1, h2⟩ | ⟨h1, h2⟩ | ⟨h1, h2⟩ <;> omega
   unfold roF
   rw [if_pos hr]
   split <;> exact this
 · unfold roF
   rw [if_neg hr]
   simp [CapD.none_]
theorem voF_lit {c : CapD} : (voF c).lit = [] := by
 unfold voF
 split
 · rename_i h
   simp at h
   have hl := valid_lit h.1 h.2
   by_cases hr : readF c = true
   · rw [if_pos hr]
     show (roF c).lit = []
     unfold roF
     rw [if_pos hr]
     split <;> exact hl
   · rw [if_neg hr]
     exact hl
 · rfl
end Go.Proofs.YthdjgebbjogmiaaDoor

namespace Go.Proofs.YthdjgebbjogmiaaDoor
open Go Go.RowKit
set_option maxRecDepth 100000

/-- What a load of a field finds, by its type and its place. -/
def capAt (c : CapD) (lit : Value) (ty off : Nat) : Option Value :=
 if ty = 3 then (capInt c off).map (.int .i64)
 else if ty = 26 then (if off = 52 then some lit else none)
 else if ty = 23 then (if off = 1 then some (.agg (u8s c.key).toArray) else none)
 else if ty = 25 then (if off = 17 then some (.agg (u8s c.fp).toArray) else none)
 else if ty = 28 then (if off = 0 then some (capV c lit) else none)
 else none
section
variable {ops : Array Oper} {rest : List Oper} {o : Oper} {a : Act} {w : World} {Q : Exit → Act → World → Prop} {g : Nat} {c : CapD} {lit : Value}
theorem wpList_cap_load (ty : TypeId) (x : Operand) (ho : o.op = .load ty x) (off : Nat) (hx : a.eval x = .pointer (some ⟨g, off, none⟩)) (hw : Region.wanted o (yielded ops a.tmps) = true) (hB : CapB w g c lit)
 (v : Value) (hv : capAt c lit ty off = some v) (h : wpList Tryd.prog ops Q rest (a.put o.dst v) w) : wpList Tryd.prog ops Q (o :: rest) a w := by
 unfold capAt at hv
 split at hv
 · next e =>
   subst e
   obtain ⟨n, hn, rfl⟩ := Option.map_eq_some_iff.1 hv
   exact wpList_cap_int x ho off hx hw hB n hn h
 · split at hv
   · next e =>
     subst e
     split at hv
     · next e => subst e; injection hv with hv; subst hv; exact wpList_cap_lit x ho hx hw hB h
     · cases hv
   · split at hv
     · next e =>
       subst e
       split at hv
       · next e => subst e; injection hv with hv; subst hv; exact wpList_cap_key x ho hx hw hB h
       · cases hv
     · split at hv
       · next e =>
         subst e
         split at hv
         · next e => subst e; injection hv with hv; subst hv; exact wpList_cap_fp x ho hx hw hB h
         · cases hv
       · split at hv
         · next e =>
           subst e
           split at hv
           · next e => subst e; injection hv with hv; subst hv; exact wpList_cap_all x ho hx hw hB h
           · cases hv
         · cases hv
theorem wpList_cap_field (x : Operand) (k : Nat) (ho : o.op = .fieldAddr 28 x k) (g : Nat) (hx : a.eval x = .pointer (some ⟨g, 0, none⟩)) (hw : Region.wanted o (yielded ops a.tmps) = true) (off : Nat) (hk : [0, 1, 17, 49, 50, 51, 52][k]? = some off)
 (h : wpList Tryd.prog ops Q rest (a.put o.dst (.pointer (some ⟨g, off, none⟩))) w) : wpList Tryd.prog ops Q (o :: rest) a w :=
 wpList_go hw fun _ hK => wp_value _ (exec_field x k off ho g hx hk) (hK _ _ h)
end
end Go.Proofs.YthdjgebbjogmiaaDoor

namespace Go.Proofs.YthdjgebbjogmiaaDoor
open Go Go.RowKit
set_option linter.unusedVariables false
set_option maxRecDepth 100000

set_option maxHeartbeats 1000000 in
theorem equal_bytes (va vb : Value) (xs ys : List Int) (w : World) (B : Nat) (ha : Bs w B va xs) (hb : Bs w B vb ys) (hxa : Bytes xs) (hyb : Bytes ys) :
 Calls Tryd.prog 54 #[va, vb] w fun e w' => e = .returned (.bool (decide (xs = ys))) ∧ Below w.heap.size w w' := by
 have HA := hide ha
 have HB := hide hb
 have HI := hide (strOf_inj hxa hyb)
 clear ha hb hxa hyb
 obtain ⟨X, HX⟩ : ∃ s, Hid (strOfNums xs = s) := ⟨_, hide rfl⟩
 obtain ⟨Y, HY⟩ : ∃ s, Hid (strOfNums ys = s) := ⟨_, hide rfl⟩
 rw [HX.out, HY.out] at HI
 have HBe := hide (Below.refl w.heap.size w)
 have HQ := hide (show (X.toList == Y.toList) = decide (xs = ys) by
  by_cases h : X = Y
  · rw [decide_eq_true (HI.out.1 h), h]; simp
  · rw [str_ne h, decide_eq_false (fun e => h (HI.out.2 e))])
 go_enter Tryd.func54, Tryd.ntmps54
 go_wp2_with (first
  | (refine wpList_to_string rfl (.tmp 5) rfl B va xs rfl HA.out ?_; rw [HX.out])
  | (refine wpList_to_string rfl (.tmp 7) rfl B vb ys rfl HB.out ?_; rw [HY.out]))
 all_goals go_ret
 all_goals exact ⟨by rw [← HQ.out]; rfl, HBe.out⟩

/-- Are all fields one? -/
def sameF (a b : CapD) : Bool := (a.kind == b.kind) && (decide (a.key = b.key) && (decide (a.fp = b.fp) && ((a.K == b.K) && ((a.N == b.N) && ((a.S == b.S) && decide (a.lit = b.lit))))))
theorem sameF_iff (a b : CapD) : sameF a b = true ↔ a = b := by
 obtain ⟨a1, a2, a3, a4, a5, a6, a7⟩ := a
 obtain ⟨b1, b2, b3, b4, b5, b6, b7⟩ := b
 simp [sameF]
theorem sameF_self (a : CapD) : sameF a a = true := (sameF_iff a a).2 rfl

set_option maxHeartbeats 8000000 in
theorem same_caps (a b : CapD) (la lb : Value) (w : World) (a1 : a.key.length = 16) (a2 : a.fp.length = 32) (b1 : b.key.length = 16) (b2 : b.fp.length = 32) (ha : Bs w w.heap.size la a.lit) (hb : Bs w w.heap.size lb b.lit) (hab : Bytes a.lit) (hbb : Bytes b.lit) :
 Calls Tryd.prog 32 #[capV a la, capV b lb] w fun e w' => e = .returned (.bool (sameF a b)) ∧ Below w.heap.size w w' := by
 have HA1 := hide a1
 have HA2 := hide a2
 have HB1 := hide b1
 have HB2 := hide b2
 have H3 := hide ha.one
 have H4 := hide hb.one
 obtain ⟨q7, Q7⟩ : ∃ q, Hid (decide (a.lit = b.lit) = q) := ⟨_, hide rfl⟩
 have HC := hide (fun (w' : World) (hw : Below w.heap.size w w') => equal_bytes la lb a.lit b.lit w' w.heap.size (ha.below hw (Nat.le_refl _)) (hb.below hw (Nat.le_refl _)) hab hbb)
 clear a1 a2 b1 b2 ha hb hab hbb
 obtain ⟨VA, HVA⟩ : ∃ x, Hid (capV a la = x) := ⟨_, hide rfl⟩
 obtain ⟨VB, HVB⟩ : ∃ x, Hid (capV b lb = x) := ⟨_, hide rfl⟩
 rw [HVA.out, HVB.out]
 obtain ⟨q1, Q1⟩ : ∃ q, (a.kind == b.kind) = q := ⟨_, rfl⟩
 obtain ⟨q2, Q2⟩ : ∃ q, Hid (decide (a.key = b.key) = q) := ⟨_, hide rfl⟩
 obtain ⟨q3, Q3⟩ : ∃ q, Hid (decide (a.fp = b.fp) = q) := ⟨_, hide rfl⟩
 obtain ⟨q4, Q4⟩ : ∃ q, (a.K == b.K) = q := ⟨_, rfl⟩
 obtain ⟨q5, Q5⟩ : ∃ q, (a.N == b.N) = q := ⟨_, rfl⟩
 obtain ⟨q6, Q6⟩ : ∃ q, (a.S == b.S) = q := ⟨_, rfl⟩
 have HV := hide (show sameF a b = (q1 && (q2 && (q3 && (q4 && (q5 && (q6 && q7)))))) by rw [sameF, Q1, Q2.out, Q3.out, Q4, Q5, Q6, Q7.out])
 rw [Q7.out] at HC
 go_enter Tryd.func32, Tryd.ntmps32
 go_upto_region 1 with (first
  | (refine wpList_cap_new _ rfl (HVA.out.symm) rfl HA1.out HA2.out H3.out ?_; intro w1 hb1 hw1 hs1; have BA := hide hb1; have HW := hide hw1; clear hb1 hw1)
  | (refine wpList_cap_new _ rfl (HVB.out.symm) rfl HB1.out HB2.out H4.out ?_; intro w2 hb2 hw2 hs2; rw [hs1] at hb2; have BB := hide hb2; replace BA := hide (BA.out.below hw2 BA.out.lt); replace HW := hide (HW.out.trans (hw2.mono (by omega))); clear hb2 hw2))
 generalize hg1 : w.heap.size + 1 = g1 at BB ⊢
 generalize hg0 : w.heap.size = g0 at BA ⊢
 have G0 := hide hg0
 have G1 := hide hg1
 clear hg0 hg1
 go_wp2_with (first
  | go_skip
  | (refine wpList_cap_int _ rfl _ rfl rfl BA.out _ rfl ?_)
  | (refine wpList_cap_int _ rfl _ rfl rfl BB.out _ rfl ?_)
  | (refine wpList_cap_key _ rfl rfl rfl BA.out ?_)
  | (refine wpList_cap_key _ rfl rfl rfl BB.out ?_)
  | (refine wpList_cap_fp _ rfl rfl rfl BA.out ?_)
  | (refine wpList_cap_fp _ rfl rfl rfl BB.out ?_)
  | (refine wpList_cap_lit _ rfl rfl rfl BA.out ?_)
  | (refine wpList_cap_lit _ rfl rfl rfl BB.out ?_)
  | (refine wpList_eql_key _ _ _ rfl a.key b.key rfl rfl rfl HA1.out HB1.out _ Q2.out ?_)
  | (refine wpList_eql_hash _ _ _ rfl a.fp b.fp rfl rfl rfl HA2.out HB2.out _ Q3.out ?_)
  | (go_at_call 54; refine (HC.out w2 HW.out).mono ?_; rintro e w3 ⟨rfl, hb3⟩; replace HW := hide (HW.out.trans (hb3.mono HW.out.size)); clear hb3))
 all_goals go_ret
 all_goals refine ⟨?_, HW.out⟩
 all_goals rw [HV.out]
 all_goals refine congrArg Ending.returned (congrArg Value.bool ?_)
 all_goals simp [*]

set_option maxHeartbeats 8000000 in
theorem same_cap (a b : CapD) (la lb : Value) (w : World) (a1 : a.key.length = 16) (a2 : a.fp.length = 32) (b1 : b.key.length = 16) (b2 : b.fp.length = 32) (ha : Bs w w.heap.size la a.lit) (hb : Bs w w.heap.size lb b.lit) (hab : Bytes a.lit) (hbb : Bytes b.lit) :
 Calls Tryd.prog 49 #[capV a la, capV b lb] w fun e w' => e = .returned (.bool (sameF a b)) ∧ Below w.heap.size w w' := by
 have HA1 := hide a1
 have HA2 := hide a2
 have HB1 := hide b1
 have HB2 := hide b2
 have H3 := hide ha.one
 have H4 := hide hb.one
 obtain ⟨q7, Q7⟩ : ∃ q, Hid (decide (a.lit = b.lit) = q) := ⟨_, hide rfl⟩
 have HC := hide (fun (w' : World) (hw : Below w.heap.size w w') => same_bytes la lb a.lit b.lit w' w.heap.size (ha.below hw (Nat.le_refl _)) (hb.below hw (Nat.le_refl _)) hw.size)
 clear a1 a2 b1 b2 ha hb hab hbb
 obtain ⟨VA, HVA⟩ : ∃ x, Hid (capV a la = x) := ⟨_, hide rfl⟩
 obtain ⟨VB, HVB⟩ : ∃ x, Hid (capV b lb = x) := ⟨_, hide rfl⟩
 rw [HVA.out, HVB.out]
 obtain ⟨q1, Q1⟩ : ∃ q, (a.kind == b.kind) = q := ⟨_, rfl⟩
 obtain ⟨q2, Q2⟩ : ∃ q, Hid (decide (a.key = b.key) = q) := ⟨_, hide rfl⟩
 obtain ⟨q3, Q3⟩ : ∃ q, Hid (decide (a.fp = b.fp) = q) := ⟨_, hide rfl⟩
 obtain ⟨q4, Q4⟩ : ∃ q, (a.K == b.K) = q := ⟨_, rfl⟩
 obtain ⟨q5, Q5⟩ : ∃ q, (a.N == b.N) = q := ⟨_, rfl⟩
 obtain ⟨q6, Q6⟩ : ∃ q, (a.S == b.S) = q := ⟨_, rfl⟩
 have HV := hide (show sameF a b = (q1 && (q2 && (q3 && (q4 && (q5 && (q6 && q7)))))) by rw [sameF, Q1, Q2.out, Q3.out, Q4, Q5, Q6, Q7.out])
 rw [Q7.out] at HC
 go_enter Tryd.func49, Tryd.ntmps49
 go_upto_region 1 with (first
  | (refine wpList_cap_new _ rfl (HVA.out.symm) rfl HA1.out HA2.out H3.out ?_; intro w1 hb1 hw1 hs1; have BA := hide hb1; have HW := hide hw1; clear hb1 hw1)
  | (refine wpList_cap_new _ rfl (HVB.out.symm) rfl HB1.out HB2.out H4.out ?_; intro w2 hb2 hw2 hs2; rw [hs1] at hb2; have BB := hide hb2; replace BA := hide (BA.out.below hw2 BA.out.lt); replace HW := hide (HW.out.trans (hw2.mono (by omega))); clear hb2 hw2))
 generalize hg1 : w.heap.size + 1 = g1 at BB ⊢
 generalize hg0 : w.heap.size = g0 at BA ⊢
 have G0 := hide hg0
 have G1 := hide hg1
 clear hg0 hg1
 go_wp2_with (first
  | go_skip
  | (refine wpList_cap_int _ rfl _ rfl rfl BA.out _ rfl ?_)
  | (refine wpList_cap_int _ rfl _ rfl rfl BB.out _ rfl ?_)
  | (refine wpList_cap_key _ rfl rfl rfl BA.out ?_)
  | (refine wpList_cap_key _ rfl rfl rfl BB.out ?_)
  | (refine wpList_cap_fp _ rfl rfl rfl BA.out ?_)
  | (refine wpList_cap_fp _ rfl rfl rfl BB.out ?_)
  | (refine wpList_cap_lit _ rfl rfl rfl BA.out ?_)
  | (refine wpList_cap_lit _ rfl rfl rfl BB.out ?_)
  | (refine wpList_eql_key _ _ _ rfl a.key b.key rfl rfl rfl HA1.out HB1.out _ Q2.out ?_)
  | (refine wpList_eql_hash _ _ _ rfl a.fp b.fp rfl rfl rfl HA2.out HB2.out _ Q3.out ?_)
  | (go_at_call 16; refine (HC.out w2 HW.out).mono ?_; rintro e w3 ⟨rfl, hb3⟩; replace HW := hide (HW.out.trans (hb3.mono HW.out.size)); clear hb3))
 all_goals go_ret
 all_goals refine ⟨?_, HW.out⟩
 all_goals rw [HV.out]
 all_goals refine congrArg Ending.returned (congrArg Value.bool ?_)
 all_goals simp [*]
end Go.Proofs.YthdjgebbjogmiaaDoor

namespace Go.Proofs.YthdjgebbjogmiaaDoor
open Go Go.RowKit
set_option maxRecDepth 100000
/-- An entry as data. -/
structure EntD where
 name : List Int
 read : CapD
 write : CapD
 has : Bool
structure EntD.Wf (e : EntD) : Prop where
 nameB : Bytes e.name
 rWf : e.read.Wf
 wWf : e.write.Wf
def EntD.none_ : EntD := ⟨[], CapD.none_, CapD.none_, false⟩
theorem EntD.none_wf : EntD.none_.Wf := ⟨(fun x hx => by cases hx), CapD.none_wf, CapD.none_wf⟩
end Go.Proofs.YthdjgebbjogmiaaDoor

namespace Go.Proofs.YthdjgebbjogmiaaDoor
open Go Go.RowKit
set_option maxRecDepth 100000
set_option linter.unusedVariables false
/-- May there be such an entry? -/
def oneB (e : EntD) : Bool := decide (1 ≤ e.name.length ∧ e.name.length ≤ 64) && (decide e.read.Valid && (!writeF e.read && (if e.has then (writeF e.write && sameF (roF e.write) e.read) else sameF e.write CapD.none_)))
/-- Does a name stand behind the one ahead? -/
def headG : Option (List Int) → List Int → Bool
 | none, _ => true
 | some p, n => ltL p n
def rightG : Option (List Int) → List EntD → Bool
 | _, [] => true
 | p, e :: l => oneB e && (headG p e.name && rightG (some e.name) l)
/-- May there be such a directory? -/
def rightB (l : List EntD) : Bool := rightG none l && decide (l.length ≤ 16)
def Rise (l : List EntD) : Prop := l.Pairwise fun a b => ltL a.name b.name = true
theorem rightG_iff : ∀ (l : List EntD) (p : Option (List Int)), rightG p l = true ↔ (∀ e ∈ l, oneB e = true) ∧ Rise l ∧ ∀ n, p = some n → ∀ e ∈ l, ltL n e.name = true
 | [], p => by simp [rightG, Rise]
 | e :: l, p => by
  rw [rightG]
  simp only [Bool.and_eq_true]
  rw [rightG_iff l (some e.name)]
  unfold Rise
  rw [List.pairwise_cons]
  constructor
  · rintro ⟨h1, h2, h3, h4, h5⟩
    refine ⟨fun x hx => ?_, ⟨fun x hx => h5 _ rfl x hx, h4⟩, fun n hn x hx => ?_⟩
    · rcases List.mem_cons.1 hx with rfl | hx
      · exact h1
      · exact h3 x hx
    · subst hn
      replace h2 : ltL n e.name = true := h2
      rcases List.mem_cons.1 hx with rfl | hx
      · exact h2
      · exact ltL_trans h2 (h5 _ rfl x hx)
  · rintro ⟨h1, ⟨h2, h3⟩, h4⟩
    refine ⟨h1 e List.mem_cons_self, ?_, fun x hx => h1 x (List.mem_cons_of_mem _ hx), h3, fun n hn x hx => by injection hn with hn; subst hn; exact h2 x hx⟩
    cases p with
    | none => rfl
    | some n => exact h4 n rfl e List.mem_cons_self
theorem rightB_iff (l : List EntD) : rightB l = true ↔ (∀ e ∈ l, oneB e = true) ∧ Rise l ∧ l.length ≤ 16 := by
 unfold rightB
 rw [Bool.and_eq_true, rightG_iff, decide_eq_true_eq]
 constructor
 · rintro ⟨⟨h1, h2, _⟩, h3⟩; exact ⟨h1, h2, h3⟩
 · rintro ⟨h1, h2, h3⟩; exact ⟨⟨h1, h2, fun n hn => by cases hn⟩, h3⟩
/-- With an entry: as the loops do it. -/
def insG (e : EntD) : Bool → List EntD → List EntD
 | put, [] => if put then [] else [e]
 | put, x :: l => (if !put && !(ltL x.name e.name) then [e] else []) ++ ((if x.name = e.name then [] else [x]) ++ insG e (put || !(ltL x.name e.name)) l)
def lessL (l : List EntD) (n : List Int) : List EntD := l.filter fun x => ltL x.name n
def moreL (l : List EntD) (n : List Int) : List EntD := l.filter fun x => ltL n x.name
theorem insG_put (e : EntD) : ∀ (l : List EntD), Rise l → (∀ x ∈ l, ltL x.name e.name = false) → insG e true l = moreL l e.name
 | [], _, _ => rfl
 | x :: l, hr, h => by
  unfold Rise at hr
  rw [List.pairwise_cons] at hr
  have hx := h x List.mem_cons_self
  have ih := insG_put e l hr.2 (fun y hy => h y (List.mem_cons_of_mem _ hy))
  rw [insG]
  simp only [Bool.true_or, Bool.not_true, Bool.false_and, Bool.false_eq_true, if_false, List.nil_append]
  rw [ih]
  unfold moreL
  rw [List.filter_cons]
  by_cases he : x.name = e.name
  · rw [if_pos he, he, ltL_irrefl]; simp
  · rcases ltL_total he with h1 | h1
    · rw [hx] at h1; cases h1
    · rw [if_neg he, h1]; simp
theorem insG_eq (e : EntD) : ∀ (l : List EntD), Rise l → insG e false l = lessL l e.name ++ e :: moreL l e.name
 | [], _ => rfl
 | x :: l, hr => by
  have hr' := hr
  unfold Rise at hr
  rw [List.pairwise_cons] at hr
  rw [insG]
  unfold lessL moreL
  rw [List.filter_cons, List.filter_cons]
  cases hx : ltL x.name e.name
  · have hge : ∀ y ∈ l, ltL y.name e.name = false := fun y hy => by
     cases hy' : ltL y.name e.name
     · rfl
     · have := ltL_trans (hr.1 y hy) hy'
       rw [hx] at this; cases this
    have hp := insG_put e l hr.2 hge
    have hl0 : (l.filter fun y => ltL y.name e.name) = [] := List.filter_eq_nil_iff.2 (fun y hy => by rw [hge y hy]; simp)
    simp only [Bool.not_false, Bool.and_self, if_true, Bool.or_true, hl0, Bool.false_eq_true, if_false, List.nil_append]
    rw [hp]
    unfold moreL
    by_cases he : x.name = e.name
    · rw [if_pos he, he, ltL_irrefl]; simp
    · rcases ltL_total he with h1 | h1
      · rw [hx] at h1; cases h1
      · rw [if_neg he, h1]; simp
  · have ih := insG_eq e l hr.2
    have hne := ltL_ne hx
    simp only [Bool.not_true, Bool.and_false, Bool.false_eq_true, if_false, if_true, Bool.or_false, List.nil_append, if_neg hne]
    rw [ih, ltL_asymm hx]
    simp [lessL, moreL]
theorem Rise.filter {l : List EntD} (h : Rise l) (p : EntD → Bool) : Rise (l.filter p) := List.Pairwise.filter p h
theorem Rise.ins {l : List EntD} (h : Rise l) (e : EntD) : Rise (insG e false l) := by
 rw [insG_eq e l h]
 unfold Rise
 rw [List.pairwise_append, List.pairwise_cons]
 refine ⟨h.filter _, ⟨fun x hx => (List.mem_filter.1 hx).2, h.filter _⟩, fun x hx y hy => ?_⟩
 have h1 := (List.mem_filter.1 hx).2
 rcases List.mem_cons.1 hy with rfl | hy
 · exact h1
 · exact ltL_trans h1 (List.mem_filter.1 hy).2
theorem ins_mem {l : List EntD} (h : Rise l) (e : EntD) : ∀ x ∈ insG e false l, x = e ∨ x ∈ l := fun x hx => by
 rw [insG_eq e l h] at hx
 rcases List.mem_append.1 hx with hx | hx
 · exact .inr (List.mem_filter.1 hx).1
 · rcases List.mem_cons.1 hx with rfl | hx
   · exact .inl rfl
   · exact .inr (List.mem_filter.1 hx).1
/-- Set twice it is there once. -/
theorem ins_twice {l : List EntD} (h : Rise l) (e : EntD) : insG e false (insG e false l) = insG e false l := by
 rw [insG_eq e _ (h.ins e), insG_eq e l h]
 have e1 : lessL (lessL l e.name ++ e :: moreL l e.name) e.name = lessL l e.name := by
  unfold lessL moreL
  rw [List.filter_append, List.filter_cons, ltL_irrefl]
  rw [List.filter_filter, List.filter_filter]
  have : (l.filter fun x => ltL x.name e.name && ltL e.name x.name) = [] := List.filter_eq_nil_iff.2 (fun x _ hx => by
   rw [Bool.and_eq_true] at hx
   rw [ltL_asymm hx.1] at hx
   cases hx.2)
  rw [if_neg (by simp), this, List.append_nil]
  congr 1
  funext x
  cases ltL x.name e.name <;> rfl
 have e2 : moreL (lessL l e.name ++ e :: moreL l e.name) e.name = moreL l e.name := by
  unfold lessL moreL
  rw [List.filter_append, List.filter_cons, ltL_irrefl]
  rw [List.filter_filter, List.filter_filter]
  have : (l.filter fun x => ltL e.name x.name && ltL x.name e.name) = [] := List.filter_eq_nil_iff.2 (fun x _ hx => by
   rw [Bool.and_eq_true] at hx
   rw [ltL_asymm hx.1] at hx
   cases hx.2)
  rw [if_neg (by simp), this, List.nil_append]
  congr 1
  funext x
  cases ltL e.name x.name <;> rfl
 rw [e1, e2]
/-- Without a name. -/
def remL (l : List EntD) (n : List Int) : List EntD := l.filter fun x => decide (x.name ≠ n)
theorem rem_ins {l : List EntD} (h : Rise l) (e : EntD) : remL (insG e false l) e.name = lessL l e.name ++ moreL l e.name := by
 rw [insG_eq e l h]
 unfold remL lessL moreL
 rw [List.filter_append, List.filter_cons, List.filter_filter, List.filter_filter, if_neg (by simp)]
 congr 1
 · congr 1
   funext x
   cases hx : ltL x.name e.name
   · simp
   · simp [ltL_ne hx]
 · congr 1
   funext x
   cases hx : ltL e.name x.name
   · simp
   · simp [Ne.symm (ltL_ne hx)]
/-- The entry of a name. -/
def findL (l : List EntD) (n : List Int) : Option EntD := l.find? fun x => decide (x.name = n)
theorem find_ins {l : List EntD} (h : Rise l) (e : EntD) : findL (insG e false l) e.name = some e := by
 rw [insG_eq e l h]
 unfold findL
 rw [List.find?_append]
 have : (lessL l e.name).find? (fun x => decide (x.name = e.name)) = none := List.find?_eq_none.2 (fun x hx => by
  have := (List.mem_filter.1 hx).2
  simpa using ltL_ne this)
 rw [this]
 simp
theorem find_rem (l : List EntD) (n : List Int) : findL (remL l n) n = none := List.find?_eq_none.2 (fun x hx => by
 have := (List.mem_filter.1 hx).2
 simpa using this)
theorem rem_rem (l : List EntD) (n : List Int) : remL (remL l n) n = remL l n := by
 unfold remL
 rw [List.filter_filter]
 congr 1
 funext x
 simp
end Go.Proofs.YthdjgebbjogmiaaDoor

namespace Go.Proofs.YthdjgebbjogmiaaDoor
open Go Go.RowKit
set_option maxRecDepth 100000
theorem valid_of_write {c : CapD} (h : writeF c = true) : c.Valid := by
 unfold writeF at h
 rw [Bool.and_eq_true] at h
 exact of_decide_eq_true h.1
/-- An entry that may be, in plain words. -/
theorem oneB_iff (e : EntD) : oneB e = true ↔ (1 ≤ e.name.length ∧ e.name.length ≤ 64) ∧ e.read.Valid ∧ writeF e.read = false ∧ (e.has = true → writeF e.write = true ∧ roF e.write = e.read) ∧ (e.has = false → e.write = CapD.none_) := by
 unfold oneB
 rw [Bool.and_eq_true, Bool.and_eq_true, Bool.and_eq_true, decide_eq_true_eq, decide_eq_true_eq]
 cases e.has <;> simp [sameF_iff]
end Go.Proofs.YthdjgebbjogmiaaDoor

namespace Go.Proofs.YthdjgebbjogmiaaDoor
open Go Go.RowKit
set_option maxRecDepth 100000

def X8 (a b : Int) : Int := bits .xor .u8 a b
theorem x8_nat (a b : Nat) (ha : a < 256) (hb : b < 256) : X8 (a : Int) (b : Int) = ((a ^^^ b : Nat) : Int) := by
 have hx : a ^^^ b < 2 ^ 8 := Nat.xor_lt_two_pow (by omega) (by omega)
 have e : ∀ n : Nat, n < 256 → (BitVec.ofInt 8 (n : Int)).toNat = n := fun n hn => by
  rw [BitVec.ofInt_natCast, BitVec.toNat_ofNat]; exact Nat.mod_eq_of_lt (by omega)
 show IntKind.u8.wrap ((BitVec.ofInt 8 (a : Int) ^^^ BitVec.ofInt 8 (b : Int)).toNat : Int) = _
 rw [BitVec.toNat_xor, e a ha, e b hb, IntKind.wrap_u8]
 omega
theorem x8_byte {a b : Int} (ha : 0 ≤ a ∧ a < 256) (hb : 0 ≤ b ∧ b < 256) : 0 ≤ X8 a b ∧ X8 a b < 256 := by
 obtain ⟨a, rfl⟩ := Int.eq_ofNat_of_zero_le ha.1
 obtain ⟨b, rfl⟩ := Int.eq_ofNat_of_zero_le hb.1
 rw [x8_nat a b (by omega) (by omega)]
 have hx : a ^^^ b < 2 ^ 8 := Nat.xor_lt_two_pow (by omega) (by omega)
 omega

/-- Times x. -/
def tw (a : Int) : Int := if (bits .and .u8 a 128 != 0) = true then X8 (a * 2 % 256) 27 else a * 2 % 256
theorem tw_byte {a : Int} (ha : 0 ≤ a ∧ a < 256) : 0 ≤ tw a ∧ tw a < 256 := by
 unfold tw
 split
 · exact x8_byte (by omega) (by omega)
 · omega

set_option maxHeartbeats 400000 in
theorem twice_any (a : Int) (w : World) (h0 : 0 ≤ a) (h1 : a < 256) :
 Calls Tryd.prog 96 #[.int .u8 a] w fun e w' => e = .returned (.int .u8 (tw a)) ∧ w = w' := by
 have H := hide (show tw a = if (bits .and .u8 a 128 != 0) = true then X8 (a * 2 % 256) 27 else a * 2 % 256 from rfl)
 go_enter Tryd.func96, Tryd.ntmps96
 go_wp2
 · go_ret
   exact ⟨by rw [H.out, if_pos (by assumption)]; rfl, rfl⟩
 · go_ret
   have h : (bits .and .u8 a 128 != 0) = false := by assumption
   exact ⟨by rw [H.out, h]; rfl, rfl⟩

theorem ext_getD {xs ys : List Int} (hl : xs.length = ys.length) (h : ∀ j, j < xs.length → xs.getD j 0 = ys.getD j 0) : xs = ys :=
 List.ext_getElem hl fun j h1 h2 => by
  have := h j h1
  rwa [List.getD_eq_getElem?_getD, List.getD_eq_getElem?_getD, List.getElem?_eq_getElem h1, List.getElem?_eq_getElem h2] at this
theorem getD_set' (l : List Int) (i j : Nat) (a : Int) (h : i < l.length) : (l.set i a).getD j 0 = if i = j then a else l.getD j 0 := by
 rw [List.getD_eq_getElem?_getD, List.getElem?_set, List.getD_eq_getElem?_getD]
 split
 · rename_i e; subst e; simp [h]
 · rfl
theorem getD_el (l : List Int) (i : Nat) (h : i < l.length) : l.getD i 0 = l[i] := by
 rw [List.getD_eq_getElem?_getD, List.getElem?_eq_getElem h]; rfl

def xorF (a b : List Int) : List Int := List.zipWith X8 a b
theorem xorF_len (a b : List Int) (ha : a.length = 16) (hb : b.length = 16) : (xorF a b).length = 16 := by simp [xorF, ha, hb]
theorem xorF_get (a b : List Int) (j : Nat) (ha : j < a.length) (hb : j < b.length) : (xorF a b).getD j 0 = X8 (a.getD j 0) (b.getD j 0) := by
 rw [getD_el _ _ (by simp [xorF]; omega), getD_el _ _ ha, getD_el _ _ hb]
 simp [xorF]

set_option maxHeartbeats 1000000 in
theorem xor_any (a b : List Int) (w : World) (ha : a.length = 16) (hb : b.length = 16) (ba : Bytes a) (bb : Bytes b) :
 Calls Tryd.prog 98 #[.agg (u8s a).toArray, .agg (u8s b).toArray] w fun e w' => e = .returned (.agg (u8s (xorF a b)).toArray) ∧ Below w.heap.size w w' := by
 have HA := hide ha
 have HB := hide hb
 have BA := hide ba
 have BB := hide bb
 clear ha hb ba bb
 go_enter Tryd.func98, Tryd.ntmps98
 go_wp2_with fail
 go_loopw [5, 6] (fun _ i wr => ∃ (k : Nat) (xs : List Int), k ≤ 16 ∧ i = .int .i64 k ∧ xs.length = 16 ∧ (∀ j, j < 16 → xs.getD j 0 = if j < k then X8 (a.getD j 0) (b.getD j 0) else a.getD j 0) ∧
  Blk wr w.heap.size 22 (u8s xs) ∧ Blk wr (w.heap.size + 1) 22 (u8s b) ∧ Blk wr (w.heap.size + 1 + 1) 22 (u8s (List.replicate 16 0)) ∧ Below w.heap.size w wr) (fun _ i _ => 16 - (intOf i).toNat)
 case atStart =>
  have b1 := ((Blk.new w 22 (u8s a)).alloc (.cells (u8s b).toArray 22)).alloc (.cells (u8s (List.replicate 16 0)).toArray 22)
  have b2 := (Blk.new (w.alloc (.cells (u8s a).toArray 22)) 22 (u8s b)).alloc (.cells (u8s (List.replicate 16 0)).toArray 22)
  have b3 := Blk.new ((w.alloc (.cells (u8s a).toArray 22)).alloc (.cells (u8s b).toArray 22)) 22 (u8s (List.replicate 16 0))
  simp only [World.size_alloc] at b2 b3
  exact ⟨0, a, Nat.zero_le _, rfl, HA.out, fun j _ => by simp, b1, b2, b3, (((Below.refl w.heap.size w).alloc (Nat.le_refl _) _).alloc (by simp) _).alloc (by simp; omega) _⟩
 case round =>
  obtain ⟨k, xs, hk, rfl, hl, hx, b1, b2, b3, hbel⟩ := hrel
  have HL := hide hl
  have HX := hide hx
  have B1 := hide b1
  have B2 := hide b2
  have B3 := hide b3
  have HBel := hide hbel
  clear hl hx b1 b2 b3 hbel
  by_cases hkt : k < 16
  · have c1 := blk_u8 B1.out k (by rw [HL.out]; exact hkt)
    have c2 := blk_u8 B2.out k (by rw [HB.out]; exact hkt)
    have f1 := B1.out.frozen k
    have hk0 : (0 : Int) ≤ (k : Int) := by omega
    have hk1 : (k : Int) < 16 := by omega
    obtain ⟨x, HXk⟩ : ∃ x, Hid (xs[k]'(by rw [HL.out]; exact hkt) = x) := ⟨_, hide rfl⟩
    obtain ⟨y, HYk⟩ : ∃ y, Hid (b[k]'(by rw [HB.out]; exact hkt) = y) := ⟨_, hide rfl⟩
    rw [HXk.out] at c1
    rw [HYk.out] at c2
    go_wp2_with fail
    go_region
    all_goals
     go_wp2_with fail
     go_roundw
     case rel =>
      refine ⟨k + 1, xs.set k (X8 x y), by omega, by go_num, by simpa using HL.out, fun j hj => ?_, blk_set B1.out k _, (B2.out.far (p := ⟨w.heap.size, k, none⟩) (by simp) _), (B3.out.far (p := ⟨w.heap.size, k, none⟩) (by simp; omega) _), (HBel.out.setCell (by simp) _).drew⟩
      rw [getD_set' _ _ _ _ (by rw [HL.out]; exact hkt)]
      have hxj := HX.out j hj
      by_cases e : k = j
      · subst e
        rw [if_pos rfl, if_pos (by omega)]
        rw [if_neg (by omega), getD_el _ _ (by rw [HL.out]; exact hkt), HXk.out] at hxj
        rw [← hxj, getD_el b _ (by rw [HB.out]; exact hkt), HYk.out]
      · rw [if_neg e, hxj]
        by_cases h1 : j < k
        · rw [if_pos h1, if_pos (by omega)]
        · rw [if_neg h1, if_neg (by omega)]
     case measure => simp [intOf]; omega
  · have hx : xs = xorF a b := by
     refine ext_getD (by rw [HL.out, xorF_len a b HA.out HB.out]) fun j hj => ?_
     rw [HL.out] at hj
     rw [HX.out j hj, if_pos (by omega), xorF_get a b j (by rw [HA.out]; exact hj) (by rw [HB.out]; exact hj)]
    have HXX := hide hx
    have hi16 : (Tryd.prog.info? 22).map (·.size) = some (u8s xs).length := by rw [u8s_len, HL.out]; kernel_rfl
    have HI := hide hi16
    clear hx hi16
    go_wp2_with (first | (refine wpList_load_blk rfl 22 _ rfl _ rfl _ _ B1.out 16 5 rfl HI.out ?_) | (refine wpList_store_blk rfl 22 _ _ rfl _ 0 (u8s xs) rfl rfl _ _ B3.out (by rw [u8s_len, u8s_len, HL.out]; simp) HI.out (u8s_one _) ?_; intro w3 hB hg hs))
    have hB2 : Blk w3 (w.heap.size + 1 + 1) 22 (u8s xs) := by rw [lset_all _ _ (by rw [u8s_len, u8s_len, HL.out]; simp)] at hB; exact hB
    refine bodyPost_ret (v := .agg (u8s xs).toArray) (results_cell_row rfl _ _ (w.heap.size + 1 + 1) 22 _ (0, 0) _ rfl hB2 rfl rfl (by simpa using HI.out)) rfl ⟨by rw [HXX.out], HBel.out.grown hg HBel.out.size (by intro k hk; simp at hk; omega)⟩
end Go.Proofs.YthdjgebbjogmiaaDoor
