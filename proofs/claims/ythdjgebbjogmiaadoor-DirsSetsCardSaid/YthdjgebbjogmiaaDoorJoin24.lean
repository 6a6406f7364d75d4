/- One entry in a block of its own, as a slice; capabilities without a literal. No condition.
What a store into an entry leaves of what is read. No condition.
The first entry of a name: the plain law. No program in sight.
What Set writes, in letters. No program in sight, but for a block that stands. -/
import Derived.Test.YthdjgebbjogmiaaDoorJoin17
import Derived.Test.YthdjgebbjogmiaaDoorCap
import Derived.Test.YthdjgebbjogmiaaDoorJoin21
import Derived.Test.YthdjgebbjogmiaaDoorJoin18
import Derived.Test.YthdjgebbjogmiaaDoorJoin13
set_option linter.unusedVariables false
set_option linter.unusedSimpArgs false
namespace Go.Proofs.YthdjgebbjogmiaaDoor
open Go Go.RowKit
set_option linter.unusedVariables false
set_option maxRecDepth 100000
theorem ents_one {w : World} {g B : Nat} {t : TypeId} {e : EntD} {la lb : Value} (h : Blk w g t (entC e la lb)) (hg : g < B) (ho : EntOk w B e la lb) : EntsB w B (.slice (some ⟨g, 0, none⟩) 1 1) [e] :=
 ⟨_, 1, rfl, Nat.le_refl _, by decide, fun _ => ⟨g, 0, rfl, hg, fun i hi => by
  obtain rfl : i = 0 := by simpa using hi
  exact ⟨la, lb, ho, fun j u hu => by rw [show 0 + 0 * 108 + j = j by omega, h.cell]; exact hu⟩⟩⟩
theorem wpList_lit_entW {ops : Array Oper} {rest : List Oper} {o : Oper} {a : Act} {w : World} {Q : Exit → Act → World → Prop} (hw : Region.wanted o (yielded ops a.tmps) = true) (x : Operand) (ho : o.op = .buildSlice 29 1 #[(0, x)]) (y : EntL) (hy : y.e.Wf) (hx : a.eval x = .agg y.cells.toArray)
 (h : ∀ w', Blk w' w.heap.size 45 y.cells → Below w.heap.size w w' → w'.heap.size = w.heap.size + 1 → wpList Tryd.prog ops Q rest (a.put o.dst (.slice (some ⟨w.heap.size, 0, none⟩) 1 1)) w') : wpList Tryd.prog ops Q (o :: rest) a w := by
 obtain ⟨i, z, hu, hi, hz, hsize, hby, hzs, _, _⟩ := el_ents
 refine wpList_go hw fun _ hK => wp_buildSlice 29 45 1 _ ho y.cells.toArray i z hu hi hz (by rw [hsize]; omega) (by rw [hsize]; omega) ?_ (hK _ _ (h _ (Blk.new w _ _) ((Below.refl _ _).alloc (Nat.le_refl _) _) (by simp)))
 have e : (#[(0, x)].map fun (p : Nat × Operand) => (p.1, a.eval p.2)).toList = ([Value.agg y.cells.toArray].zipIdx 0).map fun x => (x.2, x.1) := by simp [hx]
 rw [e, hsize]
 have := Great.fill_whole (s := 108) (by decide) [Value.agg y.cells.toArray] ((Array.range (1 * 108)).map (z.cells[· % z.cells.size]!)) (by intro u hu; rw [List.mem_singleton.1 hu]; show y.cells.toArray.size = 108; rw [List.size_toArray, EntL.len hy]) (by simp)
 rw [this]
 congr 2
 show ([Value.agg y.cells.toArray].flatMap fun v => v.cells.toList) = y.cells
 simp [Value.cells]
theorem exec_slice_mid {o : Oper} {a : Act} {w : World} (t e : TypeId) (size : Nat) (ht : Tryd.prog.underlying t = some (.slice e)) (hs : (Tryd.prog.info? e).map (·.size) = some size) (x y z : Operand) (ho : o.op = .slice t x (some y) (some z) none) (A : Option Addr) (n c i j : Nat) (hx : a.eval x = .slice A n c) (hy : a.eval y = .int .i64 (i : Int)) (hz : a.eval z = .int .i64 (j : Int)) (hij : i ≤ j) (hj : j ≤ c) :
 (execOp a.eval o).run Tryd.prog w = .ok (.value (sliced A i j c size)) w := by
 unfold execOp
 rcases hi : Tryd.prog.info? e with _ | k
 · rw [hi] at hs; cases hs
 rw [hi] at hs
 injection hs with hs
 have h0 : (0 : Int) ≤ (i : Int) ∧ (i : Int) ≤ (j : Int) ∧ (j : Int) ≤ (c : Int) ∧ (0 : Int) ≤ (j : Int) := by omega
 simp only [ho, hx, hy, hz, Option.map_some, Option.map_none, Sem.run_bind, Instr.sliceAt, run_underlying ht, Result.andThen_ok]
 simp [Instr.slice, run_underlying ht, Instr.sliceBounds, Instr.sliceBound, asIntOf, h0, sizeOf, typeInfo, hi, sliced, hij, hj, show k.size = size from hs]
theorem ents_mid {w : World} {B b o n c p : Nat} {l : List EntD} (h : EntsB w B (.slice (some ⟨b, o, none⟩) n c) l) (hp : p < l.length) : ∃ v, sliced (some ⟨b, o, none⟩) p (p + 1) c 108 = v ∧ EntsB w B v [l[p]] := by
 obtain ⟨A, c', e, h1, h2, h3⟩ := h
 injection e with e1 e2 e3
 subst e1 e2 e3
 obtain ⟨b', o', e, hb, hc⟩ := h3 (by omega)
 injection e with e
 injection e with e4 e5 e6
 subst e4 e5
 refine ⟨_, rfl, some ⟨b, o + p * 108, none⟩, c - p, ?_, by simp; omega, by omega, fun _ => ⟨b, o + p * 108, rfl, hb, fun i hi => ?_⟩⟩
 · unfold sliced
   have hcp : ¬ c = p := by omega
   by_cases hp0 : p * 108 = 0
   · simp [Addr.add, hcp, hp0]
   · simp [Addr.add, hcp, hp0]
 · obtain rfl : i = 0 := by simpa using hi
   obtain ⟨lr, lw, h5, h6⟩ := hc p hp
   exact ⟨lr, lw, h5, fun j u hu => by rw [show o + p * 108 + 0 * 108 + j = o + p * 108 + j by omega]; exact h6 j u hu⟩
end Go.Proofs.YthdjgebbjogmiaaDoor

namespace Go.Proofs.YthdjgebbjogmiaaDoor
open Go Go.RowKit
set_option linter.unusedVariables false
set_option maxRecDepth 100000
/-- Bytes among a block's cells are as they were. -/
def KeepB (cs cs' : List Value) : Prop := ∀ (j : Nat) (n : Int), cs[j]? = some (.int .u8 n) → cs'[j]? = some (.int .u8 n)
theorem Bs.keepB {w w' : World} {B g : Nat} {v : Value} {xs : List Int} {t t' : TypeId} {cs cs' : List Value} (h : Bs w B v xs) (hB : B ≤ w.heap.size) (hg : w.grownBy w' (some g)) (hk : Blk w g t cs) (hk' : Blk w' g t' cs') (hc : KeepB cs cs') : Bs w' B v xs := by
 obtain ⟨A', c', hv, g1, g2, g3, g4⟩ := h
 refine ⟨A', c', hv, g1, g2, g3, fun hp => ?_⟩
 obtain ⟨k, o, rfl, hkB, hcc⟩ := g4 hp
 refine ⟨k, o, rfl, hkB, fun j u hu => ?_⟩
 have h0 := hcc j u hu
 by_cases he : k = g
 · subst he
   obtain ⟨n, rfl⟩ : ∃ n, u = .int .u8 n := by
    unfold u8s at hu
    rw [List.getElem?_map] at hu
    obtain ⟨y, _, hy⟩ := Option.map_eq_some_iff.1 hu
    exact ⟨y, hy.symm⟩
   rw [hk.cell] at h0
   rw [hk'.cell]
   exact hc _ _ h0
 · exact (World.cell?_of_block (hg.block k (Nat.lt_of_lt_of_le hkB hB) (fun e => he (Option.some.inj e)))).trans h0
theorem KeepB.trans {a b c : List Value} (h : KeepB a b) (h' : KeepB b c) : KeepB a c := fun j n hj => h' j n (h j n hj)
theorem keepB_set {cs : List Value} {k : Nat} {u : Value} (v : Value) (hk : cs[k]? = some u) (hu : ∀ n, u ≠ .int .u8 n) : KeepB cs (cs.set k v) := fun j n hj => by
 by_cases e : j = k
 · subst e
   rw [hk] at hj
   injection hj with hj
   exact absurd hj (hu n)
 · rw [List.getElem?_set_ne (fun h => e h.symm)]
   exact hj
theorem bs_not8 {w : World} {B : Nat} {v : Value} {xs : List Int} (h : Bs w B v xs) : ∀ n, v ≠ .int .u8 n := fun n e => by
 obtain ⟨A, c, rfl, _⟩ := h.open_
 cases e
theorem ent_keepName {e : EntD} {x y : Value} (nm : List Int) : KeepB (entC e x y) (entC { e with name := nm } x y) := keepB_set (cs := entC e x y) (k := 0) (.string (strOfNums nm)) ent_name (fun n h => by cases h)
theorem ent_keepCut {e : EntD} {x y x' y' : Value} (h1 : LenE e) (h2 : LenW e) (hx : ∀ n, x ≠ .int .u8 n) (hy : ∀ n, y ≠ .int .u8 n) : KeepB (entC e x y) (entC (cutE e) x' y') := by
 have a1 := ent_keepName (e := e) (x := x) (y := y) (e.name.take 70)
 have l1 : LenE ({ e with name := e.name.take 70 } : EntD) := ⟨h1.rk, h1.rf⟩
 have l2 : LenW ({ e with name := e.name.take 70 } : EntD) := ⟨h2.wk, h2.wf⟩
 have a2 := keepB_set (cs := entC ({ e with name := e.name.take 70 } : EntD) x y) x' (ent_litR l1 l2) hx
 rw [ent_putR l1 l2] at a2
 have a3 := keepB_set (cs := entC ({ e with name := e.name.take 70 } : EntD) x' y) y' (ent_litW l1 l2) hy
 rw [ent_putW l1 l2] at a3
 exact (a1.trans a2).trans a3
theorem EntOk.keepB {w w' : World} {B g : Nat} {e : EntD} {x y : Value} {t t' : TypeId} {cs cs' : List Value} (h : EntOk w B e x y) (hB : B ≤ w.heap.size) (hg : w.grownBy w' (some g)) (hk : Blk w g t cs) (hk' : Blk w' g t' cs') (hc : KeepB cs cs') : EntOk w' B e x y :=
 { h with r1 := Bs.keepB h.r1 hB hg hk hk' hc, w1 := Bs.keepB h.w1 hB hg hk hk' hc }
theorem EntOk.named {w : World} {B : Nat} {e : EntD} {x y : Value} (h : EntOk w B e x y) {nm : List Int} (hn : Bytes nm) : EntOk w B { e with name := nm } x y := ⟨⟨hn, h.rWf, h.wWf⟩, h.r1, h.w1⟩
/-- An entry whose literals lie in blocks of bytes. -/
structure EntU (w : World) (e : EntD) (x y : Value) : Prop where
 wf : e.Wf
 r : LitB w 0 x e.read.lit
 w_ : LitB w 0 y e.write.lit
theorem EntU.ok {w : World} {e : EntD} {x y : Value} (h : EntU w e x y) : EntOk w w.heap.size e x y := ⟨h.wf, h.r.reads (Nat.zero_le _), h.w_.reads (Nat.zero_le _)⟩
theorem EntU.past {w w' : World} {e : EntD} {x y : Value} {g : Nat} {cs : List Value} (h : EntU w e x y) (hk : Blk w g 45 cs) (hg : w.grownBy w' (some g)) : EntU w' e x y :=
 ⟨h.wf, h.r.past hk (Nat.zero_le _) (by kernel_rfl) hg (Nat.zero_le _), h.w_.past hk (Nat.zero_le _) (by kernel_rfl) hg (Nat.zero_le _)⟩
theorem OwnEnts.single {w : World} {base : Nat} {v : Value} {e : EntD} (h : OwnEnts w base 0 v [e]) : ∃ b o c x y, v = .slice (some ⟨b, o, none⟩) 1 c ∧ 1 ≤ c ∧ b < w.heap.size ∧ w.rangeAt b o (entC e x y) ∧ EntU w e x y := by
 obtain ⟨h0, ls, he, h1, h2⟩ := h
 obtain ⟨y, rfl⟩ : ∃ y, ls = [y] := by
  cases ls with
  | nil => cases he
  | cons a l => cases l with
   | nil => exact ⟨a, rfl⟩
   | cons b l => simp at he
 have hye : y.e = e := by simpa using he
 subst hye
 obtain ⟨A, c, hv, a1, a2, a4, a3⟩ := Rd.of_own h1
 obtain ⟨b, o, rfl, hb, hc⟩ := a3 (by simp)
 have hy := h2 y (List.mem_singleton.2 rfl)
 exact ⟨b, o, c, y.lr, y.lw, hv, a1, hb, fun j u hu => hc j u (by simpa [EntL.cells] using hu), hy.wf, hy.r, hy.w_⟩
end Go.Proofs.YthdjgebbjogmiaaDoor

namespace Go.Proofs.YthdjgebbjogmiaaDoor
open Go Go.RowKit
set_option maxRecDepth 100000
def posL (l : List EntD) (nm : List Int) : Nat := l.findIdx fun x => decide (x.name = nm)
theorem posL_le (l : List EntD) (nm : List Int) : posL l nm ≤ l.length := List.findIdx_le_length
theorem posL_not {l : List EntD} {nm : List Int} {i : Nat} (hi : i < l.length) (h : i < posL l nm) : ¬ l[i].name = nm := by
 have := List.not_of_lt_findIdx h
 simpa using this
theorem posL_at {l : List EntD} {nm : List Int} (h : posL l nm < l.length) : l[posL l nm].name = nm := by
 have := List.findIdx_getElem (w := h)
 exact of_decide_eq_true this
theorem posL_find {l : List EntD} {nm : List Int} (h : posL l nm < l.length) : findL l nm = some l[posL l nm] := by
 unfold findL
 rw [List.find?_eq_some_iff_getElem]
 exact ⟨by simpa using posL_at h, posL l nm, h, rfl, fun j hj => by simpa using posL_not (by omega) hj⟩
theorem posL_none {l : List EntD} {nm : List Int} (h : ¬ posL l nm < l.length) : findL l nm = none := by
 unfold findL
 rw [List.find?_eq_none]
 intro x hx
 obtain ⟨i, hi, rfl⟩ := List.getElem_of_mem hx
 have := posL_not (nm := nm) hi (by have := posL_le l nm; omega)
 simpa using this
/-- Where the loop says that it stands, behind i rounds. -/
def atN (p i : Nat) : Int := if p < i then (p : Int) else -1
theorem atN_zero (p : Nat) : atN p 0 = -1 := by unfold atN; rw [if_neg (by omega)]
end Go.Proofs.YthdjgebbjogmiaaDoor

namespace Go.Proofs.YthdjgebbjogmiaaDoor
open Go Go.RowKit
set_option maxRecDepth 100000
theorem insG_mem_ (e : EntD) : ∀ (p : Bool) (l : List EntD), ∀ x ∈ insG e p l, x = e ∨ x ∈ l
 | p, [], x, hx => by
  rw [insG] at hx
  cases p
  · exact .inl (List.mem_singleton.1 hx)
  · cases hx
 | p, y :: l, x, hx => by
  rw [insG] at hx
  rcases List.mem_append.1 hx with hx | hx
  · split at hx
    · exact .inl (List.mem_singleton.1 hx)
    · cases hx
  rcases List.mem_append.1 hx with hx | hx
  · split at hx
    · cases hx
    · exact .inr (by rw [List.mem_singleton.1 hx]; exact List.mem_cons_self)
  · rcases insG_mem_ e _ l x hx with h | h
    · exact .inl h
    · exact .inr (List.mem_cons_of_mem _ h)
theorem insG_length (e : EntD) : ∀ (p : Bool) (l : List EntD), (insG e p l).length ≤ l.length + (if p then 0 else 1)
 | p, [] => by
  rw [insG]
  cases p <;> simp
 | p, y :: l => by
  have h := insG_length e (p || !(ltL y.name e.name)) l
  rw [insG, List.length_append, List.length_append, List.length_cons]
  have h2 : (if y.name = e.name then ([] : List EntD) else [y]).length ≤ 1 := by split <;> simp
  cases p <;> cases hq : ltL y.name e.name <;> rw [hq] at h <;> simp at h ⊢ <;> omega
theorem insG_at (e : EntD) (l : List EntD) (p : Bool) (i : Nat) (h : i < l.length) : insG e p (l.drop i) = (if !p && !(ltL l[i].name e.name) then [e] else []) ++ ((if l[i].name = e.name then [] else [l[i]]) ++ insG e (p || !(ltL l[i].name e.name)) (l.drop (i + 1))) := by
 rw [List.drop_eq_getElem_cons h, insG]
def setB (l : List EntD) (e : EntD) : Bool := rightB l && rightB (insG e false l)
def setF (l : List EntD) (e : EntD) : List EntD := if setB l e then insG e false l else []
def setE (l : List EntD) (e : EntD) : Int := if setB l e then 0 else 1
theorem Blk.of_same {w w' : World} {g : Nat} {t : TypeId} {cs : List Value} (h : w'.heap[g]? = w.heap[g]?) (hb : Blk w g t cs) : Blk w' g t cs := h.trans hb
theorem remL_at (l : List EntD) (nm : List Int) (i : Nat) (h : i < l.length) : remL (l.drop i) nm = (if l[i].name = nm then [] else [l[i]]) ++ remL (l.drop (i + 1)) nm := by
 rw [List.drop_eq_getElem_cons h]
 unfold remL
 rw [List.filter_cons]
 by_cases h' : l[i].name = nm <;> simp [h']
def remB (l : List EntD) (nm : List Int) : Int := if rightB l then (if (remL l nm).length = l.length then 4 else 0) else 1
def remF (l : List EntD) (nm : List Int) : List EntD := if rightB l then (if (remL l nm).length = l.length then [] else remL l nm) else []
end Go.Proofs.YthdjgebbjogmiaaDoor
