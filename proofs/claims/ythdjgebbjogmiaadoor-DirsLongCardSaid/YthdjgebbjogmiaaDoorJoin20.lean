/- What Set writes, in letters. No program in sight, but for a block that stands.
What may only read, only verify: from less to more no way leads. No program in sight.
Entries that may be, made of any: the plain law. No program in sight but for the words.
What is set is found, what is removed is not: the plain law. No program in sight but for the words.
As many entries as may be, and one more: the plain law. No program in sight but for the words. -/
import Derived.Test.YthdjgebbjogmiaaDoorJoin19
import Derived.Test.YthdjgebbjogmiaaDoorJoin12
import Derived.Test.YthdjgebbjogmiaaDoorJoin11
import Derived.Test.YthdjgebbjogmiaaDoorRight
namespace Go.Proofs.YthdjgebbjogmiaaDoor
open Go Go.RowKit
set_option maxRecDepth 100000
theorem insG_mem_ (e : EntD) : ∀ (p : Bool) (l : List EntD), ∀ x ∈ insG e p l, x = e ∨ x ∈ l
 | p, [], x, hx => by
  rw [insG] at hx
  cases p
  · exact .inl (List.mem_singleton.1 hx)
  · cases hx
 | p, y :: l, x, hx => by
  rw [insG] at hx
  rcases List.mem_append.1 hx with hx | hx
  · split at hx
    · exact .inl (List.mem_singleton.1 hx)
    · cases hx
  rcases List.mem_append.1 hx with hx | hx
  · split at hx
    · cases hx
    · exact .inr (by rw [List.mem_singleton.1 hx]; exact List.mem_cons_self)
  · rcases insG_mem_ e _ l x hx with h | h
    · exact .inl h
    · exact .inr (List.mem_cons_of_mem _ h)
theorem insG_length (e : EntD) : ∀ (p : Bool) (l : List EntD), (insG e p l).length ≤ l.length + (if p then 0 else 1)
 | p, [] => by
  rw [insG]
  cases p <;> simp
 | p, y :: l => by
  have h := insG_length e (p || !(ltL y.name e.name)) l
  rw [insG, List.length_append, List.length_append, List.length_cons]
  have h2 : (if y.name = e.name then ([] : List EntD) else [y]).length ≤ 1 := by split <;> simp
  cases p <;> cases hq : ltL y.name e.name <;> rw [hq] at h <;> simp at h ⊢ <;> omega
theorem insG_at (e : EntD) (l : List EntD) (p : Bool) (i : Nat) (h : i < l.length) : insG e p (l.drop i) = (if !p && !(ltL l[i].name e.name) then [e] else []) ++ ((if l[i].name = e.name then [] else [l[i]]) ++ insG e (p || !(ltL l[i].name e.name)) (l.drop (i + 1))) := by
 rw [List.drop_eq_getElem_cons h, insG]
def setB (l : List EntD) (e : EntD) : Bool := rightB l && rightB (insG e false l)
def setF (l : List EntD) (e : EntD) : List EntD := if setB l e then insG e false l else []
def setE (l : List EntD) (e : EntD) : Int := if setB l e then 0 else 1
theorem Blk.of_same {w w' : World} {g : Nat} {t : TypeId} {cs : List Value} (h : w'.heap[g]? = w.heap[g]?) (hb : Blk w g t cs) : Blk w' g t cs := h.trans hb
theorem remL_at (l : List EntD) (nm : List Int) (i : Nat) (h : i < l.length) : remL (l.drop i) nm = (if l[i].name = nm then [] else [l[i]]) ++ remL (l.drop (i + 1)) nm := by
 rw [List.drop_eq_getElem_cons h]
 unfold remL
 rw [List.filter_cons]
 by_cases h' : l[i].name = nm <;> simp [h']
def remB (l : List EntD) (nm : List Int) : Int := if rightB l then (if (remL l nm).length = l.length then 4 else 0) else 1
def remF (l : List EntD) (nm : List Int) : List EntD := if rightB l then (if (remL l nm).length = l.length then [] else remL l nm) else []
end Go.Proofs.YthdjgebbjogmiaaDoor

namespace Go.Proofs.YthdjgebbjogmiaaDoor
open Go Go.RowKit
set_option maxRecDepth 100000

theorem valid_turn {c : CapD} (h : c.Valid) (h3 : c.kind ≠ 3) (k' : Int) (x : List Int) (hk : (c.kind ≤ 2 ∧ 1 ≤ k' ∧ k' ≤ 2) ∨ (4 ≤ c.kind ∧ 4 ≤ k' ∧ k' ≤ 9)) : CapD.Valid { c with kind := k', key := x } := by
 unfold CapD.Valid at h ⊢
 rcases h with ⟨h1, h2⟩ | ⟨h1, h2⟩ | ⟨h1, h2⟩
 · left
   exact ⟨by show k' = 1 ∨ k' = 2; omega, h2⟩
 · exact absurd h1 h3
 · right; right
   exact ⟨by show 4 ≤ k'; omega, by show k' ≤ 9; omega, h2.2⟩
theorem readF_valid {c : CapD} (h : c.Valid) : readF c = decide (c.kind ≠ 2 ∧ c.kind ≠ 6 ∧ c.kind ≠ 9) := by
 unfold readF
 rw [decide_eq_true h, Bool.eq_iff_iff]
 simp
theorem writeF_valid {c : CapD} (h : c.Valid) : writeF c = decide (c.kind = 4 ∨ c.kind = 7) := by
 unfold writeF
 rw [decide_eq_true h, Bool.eq_iff_iff]
 simp
theorem roF_self {c : CapD} (hr : readF c = true) (hw : writeF c = false) : roF c = c := by
 unfold roF
 rw [if_pos hr, if_neg (by rw [hw]; simp)]
theorem voF_read {c : CapD} (hok : (decide c.Valid && (c.kind != 3)) = true) (hr : readF c = true) : voF c = { roF c with kind := (roF c).kind + 1, key := keyF tIndex (roF c).key } := by
 unfold voF
 rw [if_pos hok, if_pos hr]
theorem readF_none : readF CapD.none_ = false := by decide
/-- What is valid and may not read is its own verifier. -/
theorem vo_self {c : CapD} (h : c.Valid) (h3 : c.kind ≠ 3) (hr : readF c = false) : voF c = c ∧ voE c = 0 := by
 have hok : (decide c.Valid && (c.kind != 3)) = true := by rw [decide_eq_true h]; simp [h3]
 unfold voF voE
 rw [if_pos hok, if_pos hok, if_neg (by rw [hr]; simp)]
 exact ⟨rfl, rfl⟩
theorem ro_not {c : CapD} (hr : readF c = false) : roF c = CapD.none_ ∧ roE c = 11 := by
 unfold roF roE
 rw [if_neg (by rw [hr]; simp), if_neg (by rw [hr]; simp)]
 exact ⟨rfl, rfl⟩
/-- What may only read: it is valid, reads, does not write; it is its own reader. -/
theorem ro_read {c : CapD} (hr : readF c = true) (h3 : c.kind ≠ 3) :
 roE c = 0 ∧ (roF c).Valid ∧ (roF c).kind ≠ 3 ∧ readF (roF c) = true ∧ writeF (roF c) = false ∧ roF (roF c) = roF c ∧ roE (roF c) = 0 ∧ enE (roF c) = 11 ∧ (roF c).fp = c.fp := by
 have hv := (readF_kind hr).1
 have hk := (readF_kind hr).2
 have hb := valid_kind hv
 have main : (roF c).Valid ∧ (roF c).kind ≠ 3 ∧ readF (roF c) = true ∧ writeF (roF c) = false ∧ (roF c).fp = c.fp := by
  unfold roF
  rw [if_pos hr]
  by_cases hw : writeF c = true
  · rw [if_pos hw]
    have hwk := (writeF_kind hw).1
    have hv2 := valid_turn hv h3 (c.kind + 1) (keyF tRead c.key) (by omega)
    refine ⟨hv2, by show c.kind + 1 ≠ 3; omega, ?_, ?_, rfl⟩
    · rw [readF_valid hv2]
      exact decide_eq_true (show c.kind + 1 ≠ 2 ∧ c.kind + 1 ≠ 6 ∧ c.kind + 1 ≠ 9 by omega)
    · rw [writeF_valid hv2]
      exact decide_eq_false (show ¬ (c.kind + 1 = 4 ∨ c.kind + 1 = 7) by omega)
  · rw [if_neg hw]
    exact ⟨hv, h3, hr, by simpa using hw, rfl⟩
 obtain ⟨m1, m2, m3, m4, m5⟩ := main
 have e1 : roE c = 0 := by unfold roE; rw [if_pos hr]
 have e2 : roE (roF c) = 0 := by unfold roE; rw [if_pos m3]
 have e3 : enE (roF c) = 11 := by unfold enE; rw [if_neg (by rw [m4]; simp)]
 have e4 : roF (roF c) = roF c := roF_self m3 m4
 exact ⟨e1, m1, m2, m3, m4, e4, e2, e3, m5⟩
/-- What may only verify: it is valid, neither reads nor writes; it is its own verifier; of a capability and of what may only read it it is one. -/
theorem vo_laws {c : CapD} (h : c.Valid) (h3 : c.kind ≠ 3) :
 voE c = 0 ∧ (voF c).Valid ∧ (voF c).kind ≠ 3 ∧ readF (voF c) = false ∧ writeF (voF c) = false ∧ (voF c).fp = c.fp := by
 have hok : (decide c.Valid && (c.kind != 3)) = true := by rw [decide_eq_true h]; simp [h3]
 have e1 : voE c = 0 := by unfold voE; rw [if_pos hok]
 refine ⟨e1, ?_⟩
 by_cases hr : readF c = true
 · obtain ⟨_, r1, r2, r3, r4, _, _, _, r5⟩ := ro_read hr h3
   have hrk := (readF_kind r3).2
   have hb := valid_kind r1
   have hwk : ¬ ((roF c).kind = 4 ∨ (roF c).kind = 7) := by
    rw [writeF_valid r1] at r4
    exact of_decide_eq_false r4
   have hv2 := valid_turn r1 r2 ((roF c).kind + 1) (keyF tIndex (roF c).key) (by omega)
   have e : voF c = { roF c with kind := (roF c).kind + 1, key := keyF tIndex (roF c).key } := by unfold voF; rw [if_pos hok, if_pos hr]
   rw [e]
   refine ⟨hv2, by show (roF c).kind + 1 ≠ 3; omega, ?_, ?_, r5⟩
   · rw [readF_valid hv2]
     exact decide_eq_false (show ¬ ((roF c).kind + 1 ≠ 2 ∧ (roF c).kind + 1 ≠ 6 ∧ (roF c).kind + 1 ≠ 9) by omega)
   · rw [writeF_valid hv2]
     exact decide_eq_false (show ¬ ((roF c).kind + 1 = 4 ∨ (roF c).kind + 1 = 7) by omega)
 · have hr' : readF c = false := by simpa using hr
   rw [(vo_self h h3 hr').1]
   refine ⟨h, h3, hr', ?_, rfl⟩
   by_cases hw : writeF c = true
   · exact absurd (write_read hw) hr
   · simpa using hw
theorem vo_ro {c : CapD} (hr : readF c = true) (h3 : c.kind ≠ 3) : voF (roF c) = voF c ∧ voE (roF c) = 0 := by
 obtain ⟨_, r1, r2, r3, _, r4, _⟩ := ro_read hr h3
 have hv := (readF_kind hr).1
 have hok : (decide c.Valid && (c.kind != 3)) = true := by rw [decide_eq_true hv]; simp [h3]
 have hok2 : (decide (roF c).Valid && ((roF c).kind != 3)) = true := by rw [decide_eq_true r1]; simp [r2]
 constructor
 · rw [voF_read hok2 r3, r4, voF_read hok hr]
 · unfold voE
   rw [if_pos hok2]
theorem lit_laws {c : CapD} (h : c.Valid) (h3 : c.kind = 3) : voE c = 11 ∧ voF c = CapD.none_ ∧ readF c = true ∧ roF c = c ∧ roE c = 0 := by
 have hr : readF c = true := by
  rw [readF_valid h]
  exact decide_eq_true (by omega)
 have hw : ¬ writeF c = true := by
  rw [writeF_valid h]
  simp
  omega
 have hok : ¬ (decide c.Valid && (c.kind != 3)) = true := by simp [h3]
 refine ⟨?_, ?_, hr, ?_, ?_⟩
 · unfold voE; rw [if_neg hok]
 · unfold voF; rw [if_neg hok]
 · unfold roF; rw [if_pos hr, if_neg hw]
 · unfold roE; rw [if_pos hr]
end Go.Proofs.YthdjgebbjogmiaaDoor

namespace Go.Proofs.YthdjgebbjogmiaaDoor
open Go Go.RowKit
set_option maxRecDepth 100000
set_option linter.unusedVariables false
def rcapE (x : EntD) : CapD := if (!readF (rightF x.read)) || x.has then slotF x.read.key x.read.fp else rightF x.read
def rightE (i : Nat) (x : EntD) : EntD := ⟨(97 + (i : Int)) :: x.name.take 10, roF (rcapE x), if writeF (rcapE x) && x.has then rcapE x else CapD.none_, writeF (rcapE x) && x.has⟩
def rightsN (l : List EntD) (k : Nat) : List EntD := (List.range k).map fun i => rightE i (l.getD i EntD.none_)
def rightsL (l : List EntD) : List EntD := rightsN l (min l.length 6)
theorem rightsN_snoc (l : List EntD) (k : Nat) (h : k < l.length) : rightsN l (k + 1) = rightsN l k ++ [rightE k l[k]] := by
 unfold rightsN
 rw [List.range_succ, List.map_append, List.map_singleton, List.getD_eq_getElem?_getD, List.getElem?_eq_getElem h]
 rfl
theorem rightsN_len (l : List EntD) (k : Nat) : (rightsN l k).length = k := by simp [rightsN]
theorem slotF_valid (k f : List Int) : (slotF k f).Valid := .inr (.inr ⟨by show (4 : Int) ≤ 4; omega, by show (4 : Int) ≤ 9; omega, rfl, rfl, rfl, rfl⟩)
theorem slotF_write (k f : List Int) : writeF (slotF k f) = true := by rw [writeF_valid (slotF_valid k f)]; rfl
theorem slotF_read (k f : List Int) : readF (slotF k f) = true := write_read (slotF_write k f)
theorem slotF_wf {k f : List Int} (h : f.length = 32) (hb : Bytes f) : (slotF k f).Wf := ⟨keyF_len _ _, keyF_bytes _ _, h, hb, fun x hx => by cases hx⟩
theorem rcap_wf {x : EntD} (h : x.Wf) : (rcapE x).Wf := by
 unfold rcapE
 split
 · exact slotF_wf h.rWf.fpL h.rWf.fpB
 · exact right_wf h.rWf
theorem rcap_read (x : EntD) : readF (rcapE x) = true := by
 unfold rcapE
 split
 · exact slotF_read _ _
 · rename_i h
   cases hr : readF (rightF x.read)
   · rw [hr] at h; exact absurd rfl h
   · rfl
theorem rcap_has {x : EntD} (h : x.has = true) : rcapE x = slotF x.read.key x.read.fp := by
 unfold rcapE
 rw [if_pos (by rw [h]; simp)]
theorem ro_ok {c : CapD} (h : readF c = true) : (roF c).Valid ∧ writeF (roF c) = false := by
 have hv := (readF_kind h).1
 unfold roF
 rw [if_pos h]
 split
 · rename_i hw
   obtain ⟨hk, _, hl⟩ := writeF_kind hw
   have hv2 : CapD.Valid { c with kind := c.kind + 1, key := keyF tRead c.key } := valid_turn hv (by omega) _ _ (by omega)
   refine ⟨hv2, ?_⟩
   rw [writeF_valid hv2]
   exact decide_eq_false (by show ¬ (c.kind + 1 = 4 ∨ c.kind + 1 = 7); omega)
 · rename_i hw
   exact ⟨hv, by simpa using hw⟩
theorem rightE_wf {i : Nat} (hi : i < 6) {x : EntD} (h : x.Wf) : (rightE i x).Wf := ⟨fun y hy => by
 rcases List.mem_cons.1 hy with rfl | hy
 · omega
 · exact h.nameB y (List.mem_of_mem_take hy), roF_wf (rcap_wf h), by
 unfold rightE
 dsimp only
 split
 · exact rcap_wf h
 · exact CapD.none_wf⟩
theorem rightE_one {i : Nat} {x : EntD} : oneB (rightE i x) = true := by
 have hro := ro_ok (rcap_read x)
 refine (oneB_iff _).2 ⟨⟨by unfold rightE; simp, by unfold rightE; simp only [List.length_cons]; have := List.length_take_le 10 x.name; omega⟩, hro.1, hro.2, fun h => ?_, fun h => ?_⟩
 · have h' : (writeF (rcapE x) && x.has) = true := h
   unfold rightE
   simp only [h', if_true]
   rw [Bool.and_eq_true] at h'
   exact ⟨h'.1, trivial⟩
 · have h' : (writeF (rcapE x) && x.has) = false := h
   unfold rightE
   simp only [h', Bool.false_eq_true, if_false]
theorem rights_mem {l : List EntD} {e : EntD} (h : e ∈ rightsL l) : ∃ i, i < 6 ∧ ∃ x ∈ l, e = rightE i x := by
 unfold rightsL rightsN at h
 obtain ⟨i, hi, rfl⟩ := List.mem_map.1 h
 have hi' := List.mem_range.1 hi
 refine ⟨i, by omega, l[i]'(by omega), List.getElem_mem _, ?_⟩
 rw [List.getD_eq_getElem?_getD, List.getElem?_eq_getElem (by omega)]
 rfl
theorem rights_wf {l : List EntD} (h : ∀ e ∈ l, e.Wf) : ∀ e ∈ rightsL l, e.Wf := fun e he => by
 obtain ⟨i, hi, x, hx, rfl⟩ := rights_mem he
 exact rightE_wf hi (h x hx)
theorem rights_right (l : List EntD) : rightB (rightsL l) = true := by
 refine (rightB_iff _).2 ⟨fun e he => ?_, ?_, ?_⟩
 · obtain ⟨i, hi, x, hx, rfl⟩ := rights_mem he
   exact rightE_one
 · unfold Rise rightsL rightsN
   rw [List.pairwise_map]
   refine List.Pairwise.imp ?_ List.pairwise_lt_range
   intro i j hij
   show (decide ((97 + (i : Int)) < 97 + (j : Int)) || _) = true
   rw [decide_eq_true (by omega)]
   rfl
 · unfold rightsL
   rw [rightsN_len]
   omega
theorem rights_lit {l : List EntD} : ∀ e ∈ rightsL l, e.read.lit.length ≤ 1000000 ∧ e.write.lit.length ≤ 1000000 := fun e he => by
 obtain ⟨i, hi, x, hx, rfl⟩ := rights_mem he
 have h1 : (roF (rcapE x)).lit.length ≤ 64 := roF_lit_le
 refine ⟨by show (roF (rcapE x)).lit.length ≤ _; omega, ?_⟩
 unfold rightE
 dsimp only
 split
 · rename_i hw
   rw [Bool.and_eq_true] at hw
   have := (writeF_kind hw.1).2.2
   rw [this]
   simp
 · simp [CapD.none_]
end Go.Proofs.YthdjgebbjogmiaaDoor

namespace Go.Proofs.YthdjgebbjogmiaaDoor
open Go Go.RowKit
set_option maxRecDepth 100000
set_option linter.unusedVariables false
theorem ins_length {l : List EntD} (h : Rise l) (e : EntD) : (remL (insG e false l) e.name).length + 1 = (insG e false l).length := by
 rw [rem_ins h e, insG_eq e l h]
 simp
 omega
theorem right_ins {l : List EntD} {e : EntD} (hr : rightB l = true) (hn : l.length ≤ 15) (h1 : oneB e = true) : rightB (insG e false l) = true := by
 obtain ⟨a1, a2, a3⟩ := (rightB_iff l).1 hr
 refine (rightB_iff _).2 ⟨fun x hx => ?_, a2.ins e, ?_⟩
 · rcases ins_mem a2 e x hx with rfl | hx
   · exact h1
   · exact a1 x hx
 · have := insG_length e false l
   simp at this
   omega
theorem right_rem {l : List EntD} {nm : List Int} (hr : rightB l = true) : rightB (remL l nm) = true := by
 obtain ⟨a1, a2, a3⟩ := (rightB_iff l).1 hr
 refine (rightB_iff _).2 ⟨fun x hx => a1 x (List.mem_filter.1 hx).1, a2.filter _, Nat.le_trans (List.length_filter_le _ _) a3⟩
theorem set_right {l : List EntD} {e : EntD} (hr : rightB l = true) (hn : l.length ≤ 15) (h1 : oneB e = true) : setE l e = 0 ∧ setF l e = insG e false l := by
 have h : setB l e = true := by unfold setB; rw [hr, right_ins hr hn h1]; rfl
 unfold setE setF
 rw [h]
 exact ⟨rfl, rfl⟩
theorem set_twice {l : List EntD} {e : EntD} (hr : rightB l = true) (hn : l.length ≤ 15) (h1 : oneB e = true) : setE (insG e false l) e = 0 ∧ setF (insG e false l) e = insG e false l := by
 have hi := right_ins hr hn h1
 have ht := ins_twice ((rightB_iff l).1 hr).2.1 e
 have h : setB (insG e false l) e = true := by unfold setB; rw [ht, hi]; rfl
 unfold setE setF
 rw [h, ht]
 exact ⟨rfl, rfl⟩
theorem rem_right {l : List EntD} {e : EntD} (hr : rightB l = true) (hn : l.length ≤ 15) (h1 : oneB e = true) : remB (insG e false l) e.name = 0 ∧ remF (insG e false l) e.name = remL (insG e false l) e.name := by
 have hl := ins_length ((rightB_iff l).1 hr).2.1 e
 unfold remB remF
 rw [right_ins hr hn h1, if_pos rfl, if_pos rfl, if_neg (by omega), if_neg (by omega)]
 exact ⟨rfl, rfl⟩
theorem rem_again {l : List EntD} {nm : List Int} (hr : rightB l = true) : remB (remL l nm) nm = 4 ∧ remF (remL l nm) nm = [] := by
 unfold remB remF
 rw [right_rem hr, rem_rem, if_pos rfl, if_pos rfl, if_pos rfl, if_pos rfl]
 exact ⟨rfl, rfl⟩
/-- The entry that DirsRows sets. -/
def rowsEnt (nm key fp : List Int) : EntD := ⟨nm, roF (slotF key fp), slotF key fp, true⟩
theorem rowsEnt_one {nm key fp : List Int} (h1 : 1 ≤ nm.length) (h2 : nm.length ≤ 64) : oneB (rowsEnt nm key fp) = true := by
 have hro := ro_ok (slotF_read key fp)
 exact (oneB_iff _).2 ⟨⟨h1, h2⟩, hro.1, hro.2, fun _ => ⟨slotF_write key fp, rfl⟩, fun h => by cases h⟩
theorem roF_slot_lit (k f : List Int) : (roF (slotF k f)).lit = [] := by
 unfold roF
 rw [if_pos (slotF_read k f), if_pos (slotF_write k f)]
 rfl
theorem rowsEnt_wf {nm key fp : List Int} (h : Bytes nm) (hf : fp.length = 32) (hb : Bytes fp) : (rowsEnt nm key fp).Wf := ⟨h, roF_wf (slotF_wf hf hb), slotF_wf hf hb⟩
theorem rowsEnt_lit (nm key fp : List Int) : (rowsEnt nm key fp).read.lit.length ≤ 1000000 ∧ (rowsEnt nm key fp).write.lit.length ≤ 1000000 := by
 refine ⟨?_, ?_⟩
 · show (roF (slotF key fp)).lit.length ≤ _; rw [roF_slot_lit]; simp
 · show ([] : List Int).length ≤ _; simp
theorem ins_lit {l : List EntD} {e : EntD} (h : ∀ x ∈ l, x.read.lit.length ≤ 1000000 ∧ x.write.lit.length ≤ 1000000) (he : e.read.lit.length ≤ 1000000 ∧ e.write.lit.length ≤ 1000000) : ∀ x ∈ insG e false l, x.read.lit.length ≤ 1000000 ∧ x.write.lit.length ≤ 1000000 := fun x hx => by
 rcases insG_mem_ e false l x hx with rfl | hx
 · exact he
 · exact h x hx
theorem rem_lit {l : List EntD} {nm : List Int} (h : ∀ x ∈ l, x.read.lit.length ≤ 1000000 ∧ x.write.lit.length ≤ 1000000) : ∀ x ∈ remL l nm, x.read.lit.length ≤ 1000000 ∧ x.write.lit.length ≤ 1000000 := fun x hx => h x (List.mem_filter.1 hx).1
end Go.Proofs.YthdjgebbjogmiaaDoor

namespace Go.Proofs.YthdjgebbjogmiaaDoor
open Go Go.RowKit
set_option maxRecDepth 100000
set_option linter.unusedVariables false
def litC : CapD := { CapD.none_ with kind := 3 }
def slotC : CapD := { CapD.none_ with kind := 4 }
theorem litC_valid : litC.Valid := .inr (.inl ⟨rfl, by decide, rfl, rfl, rfl, rfl, rfl⟩)
theorem slotC_valid : slotC.Valid := .inr (.inr ⟨by decide, by decide, rfl, rfl, rfl, rfl⟩)
theorem litC_wf : litC.Wf := ⟨rfl, zeros_bytes 16, rfl, zeros_bytes 32, fun x hx => by cases hx⟩
theorem slotC_wf : slotC.Wf := ⟨rfl, zeros_bytes 16, rfl, zeros_bytes 32, fun x hx => by cases hx⟩
def entN (nm : List Int) (c : CapD) : EntD := ⟨nm, c, CapD.none_, false⟩
theorem entN_wf {nm : List Int} {c : CapD} (h : Bytes nm) (hc : c.Wf) : (entN nm c).Wf := ⟨h, hc, CapD.none_wf⟩
theorem entN_one (nm : List Int) : oneB (entN nm litC) = decide (1 ≤ nm.length ∧ nm.length ≤ 64) := by
 have hw : writeF litC = false := by rw [writeF_valid litC_valid]; rfl
 rw [Bool.eq_iff_iff, oneB_iff, decide_eq_true_eq]
 exact ⟨fun h => h.1, fun h => ⟨h, litC_valid, hw, (fun h => by cases h), (fun _ => rfl)⟩⟩
theorem entN_slot (nm : List Int) : oneB (entN nm slotC) = false := by
 have hw : writeF slotC = true := by rw [writeF_valid slotC_valid]; rfl
 cases h : oneB (entN nm slotC)
 · rfl
 · have := ((oneB_iff _).1 h).2.2.1
   have h' : writeF slotC = false := this
   rw [hw] at h'
   cases h'
def longE (j : Nat) : EntD := entN [97 + (j : Int)] litC
def longL (i : Nat) : List EntD := (List.range i).map longE
theorem longL_len (i : Nat) : (longL i).length = i := by simp [longL]
theorem longL_succ (i : Nat) : longL (i + 1) = longL i ++ [longE i] := by unfold longL; rw [List.range_succ, List.map_append]; rfl
theorem longL_mem {i : Nat} {e : EntD} (h : e ∈ longL i) : ∃ j, j < i ∧ e = longE j := by
 obtain ⟨j, hj, rfl⟩ := List.mem_map.1 h
 exact ⟨j, List.mem_range.1 hj, rfl⟩
theorem longE_lt {i j : Nat} (h : i < j) : ltL (longE i).name (longE j).name = true := by
 show (decide ((97 + (i : Int)) < 97 + (j : Int)) || _) = true
 rw [decide_eq_true (by omega)]
 rfl
theorem longL_rise (i : Nat) : Rise (longL i) := by
 unfold Rise longL
 rw [List.pairwise_map]
 exact List.Pairwise.imp (fun h => longE_lt h) List.pairwise_lt_range
theorem longE_one (j : Nat) : oneB (longE j) = true := by unfold longE; rw [entN_one]; rfl
theorem longL_right (i : Nat) : rightB (longL i) = decide (i ≤ 16) := by
 rw [Bool.eq_iff_iff, rightB_iff, decide_eq_true_eq, longL_len]
 refine ⟨fun h => h.2.2, fun h => ⟨fun e he => ?_, longL_rise i, h⟩⟩
 obtain ⟨j, _, rfl⟩ := longL_mem he
 exact longE_one j
theorem long_ins (i : Nat) : insG (longE i) false (longL i) = longL (i + 1) := by
 rw [insG_eq _ _ (longL_rise i), longL_succ]
 have h1 : lessL (longL i) (longE i).name = longL i := List.filter_eq_self.2 (fun e he => by
  obtain ⟨j, hj, rfl⟩ := longL_mem he
  exact longE_lt hj)
 have h2 : moreL (longL i) (longE i).name = [] := List.filter_eq_nil_iff.2 (fun e he => by
  obtain ⟨j, hj, rfl⟩ := longL_mem he
  rw [ltL_asymm (longE_lt hj)]
  simp)
 rw [h1, h2]
theorem long_set (i : Nat) (hi : i ≤ 16) : setE (longL i) (longE i) = (if i < 16 then 0 else 1) ∧ setF (longL i) (longE i) = (if i < 16 then longL (i + 1) else []) := by
 have h : setB (longL i) (longE i) = decide (i < 16) := by
  unfold setB
  rw [long_ins, longL_right, longL_right, decide_eq_true hi, Bool.true_and, Bool.eq_iff_iff, decide_eq_true_eq, decide_eq_true_eq]
  omega
 unfold setE setF
 rw [h, long_ins]
 by_cases h16 : i < 16
 · rw [decide_eq_true h16, if_pos h16, if_pos h16]; exact ⟨rfl, rfl⟩
 · rw [decide_eq_false h16, if_neg h16, if_neg h16]; exact ⟨rfl, rfl⟩
theorem long_lit (i : Nat) : ∀ e ∈ longL i, e.read.lit.length ≤ 1000000 ∧ e.write.lit.length ≤ 1000000 := fun e he => by
 obtain ⟨j, _, rfl⟩ := longL_mem he
 exact ⟨by show ([] : List Int).length ≤ _; simp, by show ([] : List Int).length ≤ _; simp⟩
theorem rightB_one (e : EntD) : rightB [e] = oneB e := by
 rw [Bool.eq_iff_iff, rightB_iff]
 simp [Rise]
theorem one_set (e : EntD) : setE [] e = (if oneB e then 0 else 1) := by
 unfold setE setB
 rw [show insG e false [] = [e] from rfl, rightB_one]
 rfl
end Go.Proofs.YthdjgebbjogmiaaDoor
