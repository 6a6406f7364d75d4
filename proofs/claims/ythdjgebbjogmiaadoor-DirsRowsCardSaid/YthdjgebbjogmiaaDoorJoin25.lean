/- What Set writes, in letters. No program in sight, but for a block that stands.
What is set is found, what is removed is not: the plain law. No program in sight but for the words.
One entry in a block of its own, as a slice; capabilities without a literal. No condition. -/
import Derived.Test.YthdjgebbjogmiaaDoorJoin20
import Derived.Test.YthdjgebbjogmiaaDoorJoin13
import Derived.Test.YthdjgebbjogmiaaDoorJoin21
import Derived.Test.YthdjgebbjogmiaaDoorJoin16
import Derived.Test.YthdjgebbjogmiaaDoorCap
import Derived.Test.YthdjgebbjogmiaaDoorJoin17
set_option linter.unusedVariables false
set_option linter.unusedSimpArgs false
namespace Go.Proofs.YthdjgebbjogmiaaDoor
open Go Go.RowKit
set_option maxRecDepth 100000
theorem insG_mem_ (e : EntD) : ∀ (p : Bool) (l : List EntD), ∀ x ∈ insG e p l, x = e ∨ x ∈ l
 | p, [], x, hx => by
  rw [insG] at hx
  cases p
  · exact .inl (List.mem_singleton.1 hx)
  · cases hx
 | p, y :: l, x, hx => by
  rw [insG] at hx
  rcases List.mem_append.1 hx with hx | hx
  · split at hx
    · exact .inl (List.mem_singleton.1 hx)
    · cases hx
  rcases List.mem_append.1 hx with hx | hx
  · split at hx
    · cases hx
    · exact .inr (by rw [List.mem_singleton.1 hx]; exact List.mem_cons_self)
  · rcases insG_mem_ e _ l x hx with h | h
    · exact .inl h
    · exact .inr (List.mem_cons_of_mem _ h)
theorem insG_length (e : EntD) : ∀ (p : Bool) (l : List EntD), (insG e p l).length ≤ l.length + (if p then 0 else 1)
 | p, [] => by
  rw [insG]
  cases p <;> simp
 | p, y :: l => by
  have h := insG_length e (p || !(ltL y.name e.name)) l
  rw [insG, List.length_append, List.length_append, List.length_cons]
  have h2 : (if y.name = e.name then ([] : List EntD) else [y]).length ≤ 1 := by split <;> simp
  cases p <;> cases hq : ltL y.name e.name <;> rw [hq] at h <;> simp at h ⊢ <;> omega
theorem insG_at (e : EntD) (l : List EntD) (p : Bool) (i : Nat) (h : i < l.length) : insG e p (l.drop i) = (if !p && !(ltL l[i].name e.name) then [e] else []) ++ ((if l[i].name = e.name then [] else [l[i]]) ++ insG e (p || !(ltL l[i].name e.name)) (l.drop (i + 1))) := by
 rw [List.drop_eq_getElem_cons h, insG]
def setB (l : List EntD) (e : EntD) : Bool := rightB l && rightB (insG e false l)
def setF (l : List EntD) (e : EntD) : List EntD := if setB l e then insG e false l else []
def setE (l : List EntD) (e : EntD) : Int := if setB l e then 0 else 1
theorem Blk.of_same {w w' : World} {g : Nat} {t : TypeId} {cs : List Value} (h : w'.heap[g]? = w.heap[g]?) (hb : Blk w g t cs) : Blk w' g t cs := h.trans hb
theorem remL_at (l : List EntD) (nm : List Int) (i : Nat) (h : i < l.length) : remL (l.drop i) nm = (if l[i].name = nm then [] else [l[i]]) ++ remL (l.drop (i + 1)) nm := by
 rw [List.drop_eq_getElem_cons h]
 unfold remL
 rw [List.filter_cons]
 by_cases h' : l[i].name = nm <;> simp [h']
def remB (l : List EntD) (nm : List Int) : Int := if rightB l then (if (remL l nm).length = l.length then 4 else 0) else 1
def remF (l : List EntD) (nm : List Int) : List EntD := if rightB l then (if (remL l nm).length = l.length then [] else remL l nm) else []
end Go.Proofs.YthdjgebbjogmiaaDoor

namespace Go.Proofs.YthdjgebbjogmiaaDoor
open Go Go.RowKit
set_option maxRecDepth 100000
set_option linter.unusedVariables false
theorem ins_length {l : List EntD} (h : Rise l) (e : EntD) : (remL (insG e false l) e.name).length + 1 = (insG e false l).length := by
 rw [rem_ins h e, insG_eq e l h]
 simp
 omega
theorem right_ins {l : List EntD} {e : EntD} (hr : rightB l = true) (hn : l.length ≤ 15) (h1 : oneB e = true) : rightB (insG e false l) = true := by
 obtain ⟨a1, a2, a3⟩ := (rightB_iff l).1 hr
 refine (rightB_iff _).2 ⟨fun x hx => ?_, a2.ins e, ?_⟩
 · rcases ins_mem a2 e x hx with rfl | hx
   · exact h1
   · exact a1 x hx
 · have := insG_length e false l
   simp at this
   omega
theorem right_rem {l : List EntD} {nm : List Int} (hr : rightB l = true) : rightB (remL l nm) = true := by
 obtain ⟨a1, a2, a3⟩ := (rightB_iff l).1 hr
 refine (rightB_iff _).2 ⟨fun x hx => a1 x (List.mem_filter.1 hx).1, a2.filter _, Nat.le_trans (List.length_filter_le _ _) a3⟩
theorem set_right {l : List EntD} {e : EntD} (hr : rightB l = true) (hn : l.length ≤ 15) (h1 : oneB e = true) : setE l e = 0 ∧ setF l e = insG e false l := by
 have h : setB l e = true := by unfold setB; rw [hr, right_ins hr hn h1]; rfl
 unfold setE setF
 rw [h]
 exact ⟨rfl, rfl⟩
theorem set_twice {l : List EntD} {e : EntD} (hr : rightB l = true) (hn : l.length ≤ 15) (h1 : oneB e = true) : setE (insG e false l) e = 0 ∧ setF (insG e false l) e = insG e false l := by
 have hi := right_ins hr hn h1
 have ht := ins_twice ((rightB_iff l).1 hr).2.1 e
 have h : setB (insG e false l) e = true := by unfold setB; rw [ht, hi]; rfl
 unfold setE setF
 rw [h, ht]
 exact ⟨rfl, rfl⟩
theorem rem_right {l : List EntD} {e : EntD} (hr : rightB l = true) (hn : l.length ≤ 15) (h1 : oneB e = true) : remB (insG e false l) e.name = 0 ∧ remF (insG e false l) e.name = remL (insG e false l) e.name := by
 have hl := ins_length ((rightB_iff l).1 hr).2.1 e
 unfold remB remF
 rw [right_ins hr hn h1, if_pos rfl, if_pos rfl, if_neg (by omega), if_neg (by omega)]
 exact ⟨rfl, rfl⟩
theorem rem_again {l : List EntD} {nm : List Int} (hr : rightB l = true) : remB (remL l nm) nm = 4 ∧ remF (remL l nm) nm = [] := by
 unfold remB remF
 rw [right_rem hr, rem_rem, if_pos rfl, if_pos rfl, if_pos rfl, if_pos rfl]
 exact ⟨rfl, rfl⟩
/-- The entry that DirsRows sets. -/
def rowsEnt (nm key fp : List Int) : EntD := ⟨nm, roF (slotF key fp), slotF key fp, true⟩
theorem rowsEnt_one {nm key fp : List Int} (h1 : 1 ≤ nm.length) (h2 : nm.length ≤ 64) : oneB (rowsEnt nm key fp) = true := by
 have hro := ro_ok (slotF_read key fp)
 exact (oneB_iff _).2 ⟨⟨h1, h2⟩, hro.1, hro.2, fun _ => ⟨slotF_write key fp, rfl⟩, fun h => by cases h⟩
theorem roF_slot_lit (k f : List Int) : (roF (slotF k f)).lit = [] := by
 unfold roF
 rw [if_pos (slotF_read k f), if_pos (slotF_write k f)]
 rfl
theorem rowsEnt_wf {nm key fp : List Int} (h : Bytes nm) (hf : fp.length = 32) (hb : Bytes fp) : (rowsEnt nm key fp).Wf := ⟨h, roF_wf (slotF_wf hf hb), slotF_wf hf hb⟩
theorem rowsEnt_lit (nm key fp : List Int) : (rowsEnt nm key fp).read.lit.length ≤ 1000000 ∧ (rowsEnt nm key fp).write.lit.length ≤ 1000000 := by
 refine ⟨?_, ?_⟩
 · show (roF (slotF key fp)).lit.length ≤ _; rw [roF_slot_lit]; simp
 · show ([] : List Int).length ≤ _; simp
theorem ins_lit {l : List EntD} {e : EntD} (h : ∀ x ∈ l, x.read.lit.length ≤ 1000000 ∧ x.write.lit.length ≤ 1000000) (he : e.read.lit.length ≤ 1000000 ∧ e.write.lit.length ≤ 1000000) : ∀ x ∈ insG e false l, x.read.lit.length ≤ 1000000 ∧ x.write.lit.length ≤ 1000000 := fun x hx => by
 rcases insG_mem_ e false l x hx with rfl | hx
 · exact he
 · exact h x hx
theorem rem_lit {l : List EntD} {nm : List Int} (h : ∀ x ∈ l, x.read.lit.length ≤ 1000000 ∧ x.write.lit.length ≤ 1000000) : ∀ x ∈ remL l nm, x.read.lit.length ≤ 1000000 ∧ x.write.lit.length ≤ 1000000 := fun x hx => h x (List.mem_filter.1 hx).1
end Go.Proofs.YthdjgebbjogmiaaDoor

namespace Go.Proofs.YthdjgebbjogmiaaDoor
open Go Go.RowKit
set_option linter.unusedVariables false
set_option maxRecDepth 100000
theorem ents_one {w : World} {g B : Nat} {t : TypeId} {e : EntD} {la lb : Value} (h : Blk w g t (entC e la lb)) (hg : g < B) (ho : EntOk w B e la lb) : EntsB w B (.slice (some ⟨g, 0, none⟩) 1 1) [e] :=
 ⟨_, 1, rfl, Nat.le_refl _, by decide, fun _ => ⟨g, 0, rfl, hg, fun i hi => by
  obtain rfl : i = 0 := by simpa using hi
  exact ⟨la, lb, ho, fun j u hu => by rw [show 0 + 0 * 108 + j = j by omega, h.cell]; exact hu⟩⟩⟩
theorem bs_emptyV {w : World} {B : Nat} {v : Value} {xs : List Int} (h : Bs w B v xs) (hx : xs = []) : ∀ W B', Bs W B' v xs := fun W B' => by
 subst hx
 obtain ⟨A, c, rfl, h1, h2, h3⟩ := h.open_
 exact ⟨A, c, rfl, h1, h2, rfl, fun h => absurd h (by simp)⟩
theorem wpList_lit_entW {ops : Array Oper} {rest : List Oper} {o : Oper} {a : Act} {w : World} {Q : Exit → Act → World → Prop} (hw : Region.wanted o (yielded ops a.tmps) = true) (x : Operand) (ho : o.op = .buildSlice 29 1 #[(0, x)]) (y : EntL) (hy : y.e.Wf) (hx : a.eval x = .agg y.cells.toArray)
 (h : ∀ w', Blk w' w.heap.size 45 y.cells → Below w.heap.size w w' → w'.heap.size = w.heap.size + 1 → wpList Tryd.prog ops Q rest (a.put o.dst (.slice (some ⟨w.heap.size, 0, none⟩) 1 1)) w') : wpList Tryd.prog ops Q (o :: rest) a w := by
 obtain ⟨i, z, hu, hi, hz, hsize, hby, hzs, _, _⟩ := el_ents
 refine wpList_go hw fun _ hK => wp_buildSlice 29 45 1 _ ho y.cells.toArray i z hu hi hz (by rw [hsize]; omega) (by rw [hsize]; omega) ?_ (hK _ _ (h _ (Blk.new w _ _) ((Below.refl _ _).alloc (Nat.le_refl _) _) (by simp)))
 have e : (#[(0, x)].map fun (p : Nat × Operand) => (p.1, a.eval p.2)).toList = ([Value.agg y.cells.toArray].zipIdx 0).map fun x => (x.2, x.1) := by simp [hx]
 rw [e, hsize]
 have := Great.fill_whole (s := 108) (by decide) [Value.agg y.cells.toArray] ((Array.range (1 * 108)).map (z.cells[· % z.cells.size]!)) (by intro u hu; rw [List.mem_singleton.1 hu]; show y.cells.toArray.size = 108; rw [List.size_toArray, EntL.len hy]) (by simp)
 rw [this]
 congr 2
 show ([Value.agg y.cells.toArray].flatMap fun v => v.cells.toList) = y.cells
 simp [Value.cells]
end Go.Proofs.YthdjgebbjogmiaaDoor
