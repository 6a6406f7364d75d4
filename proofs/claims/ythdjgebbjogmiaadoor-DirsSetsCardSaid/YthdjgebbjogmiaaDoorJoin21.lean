/- The example of the document: an empty directory has no bytes; none is right. Condition: the table of powers of ten stands.
Lists of entries of the call's own. No condition.
Names cut and joined; entries cut. No condition.
Worlds that grew, and grew again. No condition.
Entries in a block: capabilities and the flag written into them; small operations. No condition.
What may only read, only verify: from less to more no way leads. No program in sight.
Entries that may be, made of any: the plain law. No program in sight but for the words. -/
import Derived.Test.YthdjgebbjogmiaaDoorPack
import Derived.Test.YthdjgebbjogmiaaDoorJoin19
import Derived.Test.YthdjgebbjogmiaaDoorJoin17
import Derived.Test.YthdjgebbjogmiaaDoorJoin20
import Derived.Test.YthdjgebbjogmiaaDoorBase
import Derived.Test.YthdjgebbjogmiaaDoorJoin18
import Derived.Test.YthdjgebbjogmiaaDoorJoin12
import Derived.Test.YthdjgebbjogmiaaDoorJoin13
import Derived.Test.YthdjgebbjogmiaaDoorRight
set_option linter.unusedVariables false
set_option linter.unusedSimpArgs false
namespace Go.Proofs.YthdjgebbjogmiaaDoor
open Go Go.RowKit
set_option linter.unusedVariables false
set_option linter.unusedSimpArgs false
set_option maxRecDepth 100000
def dirD : CapD := { CapD.none_ with kind := 7 }
theorem built_dir : Tryd.prog.built 28 [(0, .int .i64 7)] = some (capCells dirD (.slice none 0 0)).toArray := by kernel_rfl
theorem dir_pack : packE dirD [] = 0 ∧ packR dirD [] = [] := by
 have hv : dirD.Valid := .inr (.inr ⟨by decide, by decide, rfl, rfl, rfl, rfl⟩)
 unfold packE packR packOk
 rw [decide_eq_true hv]
 exact ⟨rfl, rfl⟩
set_option maxHeartbeats 4000000
theorem wakes23 (w : World) (ht : Tab w w.heap.size) : Calls Tryd.prog 17 #[] w fun e w' => e = .returned (.bool true) ∧ Below w.heap.size w w' := by
 have HP := hide (Pack_any dirD (.slice none 0 0) (.slice none 0 0) [] w ⟨rfl, zeros_bytes 16, rfl, zeros_bytes 32, fun x hx => by cases hx⟩ (Bs.nil_ _ _) (EntsB.nil_ _ _) (fun x hx => by cases hx) (by simp) ht)
 rw [dir_pack.1, dir_pack.2] at HP
 have HR := hide (fun (w' : World) (h : Below w.heap.size w w') => dright_any (.slice none 0 0) [] w' (EntsB.nil_ _ _) (fun x hx => by cases hx) (by simp) ((ht.below h (Nat.le_refl _)).more h.size))
 have HRT := hide (show rightB [] = true from rfl)
 rw [HRT.out] at HR
 clear ht
 obtain ⟨CV, HCV⟩ : ∃ x, Hid (capV dirD (.slice none 0 0) = x) := ⟨_, hide rfl⟩
 rw [HCV.out] at HP
 have HBU := hide built_dir
 go_enter Tryd.func17, Tryd.ntmps17
 go_wp2_with (first
  | (refine wpList_go rfl fun _ hK => wp_build _ #[(0, .const (.int .i64 7))] rfl (by simp [Act.eval, HBU.out]) ?_; simp only [List.map_toArray, List.map_cons, List.map_nil, Act.eval, HBU.out, Option.getD_some]; refine hK _ _ ?_; rw [show Value.agg (capCells dirD (.slice none 0 0)).toArray = CV from HCV.out]))
 refine HP.out.mono ?_
 rintro e w1 ⟨v1, rfl, ho, hb1⟩
 have HB := hide hb1
 obtain ⟨A1, c1, rfl⟩ := ho.shape
 clear hb1 ho HP
 go_wp2_with go_skip
 refine (HR.out _ HB.out).mono ?_
 rintro e w2 ⟨rfl, hb2⟩
 replace HB := hide (HB.out.trans (hb2.mono HB.out.size))
 clear hb2
 go_wp2_with go_skip
 go_ret
 exact ⟨rfl, HB.out⟩
end Go.Proofs.YthdjgebbjogmiaaDoor

namespace Go.Proofs.YthdjgebbjogmiaaDoor
open Go Go.RowKit
set_option linter.unusedVariables false
set_option maxRecDepth 100000
theorem el_ents : ElemOf Tryd.prog 29 45 108 232 := elem_of Tryd.underlying29 (z := .agg (entC EntD.none_ (.slice none 0 0) (.slice none 0 0)).toArray) (by kernel_rfl) (by simp [Value.cells, entC, capCells, u8s, CapD.none_, EntD.none_, zeros]) (by decide) (by decide)
/-- Does a slice lie in a block of bytes? -/
def InU8 (w : World) (v : Value) : Prop := ∀ b o p n c, v = .slice (some ⟨b, o, p⟩) n c → ∃ cs f, w.heap[b]? = some (.cells cs 5 f)
/-- A literal: elder than the call, or in a block of bytes. -/
def LitB (w : World) (base : Nat) (v : Value) (xs : List Int) : Prop := Bs w base v xs ∨ (Bs w w.heap.size v xs ∧ InU8 w v)
section
variable {w w' : World} {base B : Nat} {v : Value} {xs : List Int}
theorem RowB.inU8 (h : RowB w base v xs) : InU8 w v := by
 rcases h with ⟨rfl, _⟩ | ⟨g, cap, cur, f, rfl, _, hb, _⟩
 · intro b o p n c e; injection e with e; cases e
 · intro b o p n c e
   injection e with e
   injection e with e
   injection e with e
   subst e
   exact ⟨_, _, hb⟩
theorem Own8.inU8 (h : Own8 w base v xs) : InU8 w v := by
 rcases h.2 with ⟨rfl, _⟩ | ⟨g, cap, cur, rfl, _, hb, _⟩
 · intro b o p n c e; injection e with e; cases e
 · intro b o p n c e
   injection e with e
   injection e with e
   injection e with e
   subst e
   exact ⟨_, _, hb⟩
theorem RowB.litB {B : Nat} (h : RowB w B v xs) : LitB w base v xs := .inr ⟨h.reads, h.inU8⟩
theorem Own8.litB {B : Nat} (h : Own8 w B v xs) : LitB w base v xs := .inr ⟨h.reads, h.inU8⟩
theorem LitB.nil_ (w : World) (base : Nat) : LitB w base (.slice none 0 0) [] := .inl (Bs.nil_ _ _)
theorem LitB.keptB (h : LitB w base v xs) (hb : Below w.heap.size w w') (hB : base ≤ w.heap.size) : LitB w' base v xs := by
 rcases h with h | ⟨h, hu⟩
 · exact .inl (h.below hb hB)
 · refine .inr ⟨(h.below hb (Nat.le_refl _)).more hb.size, fun b o p n c e => ?_⟩
   obtain ⟨cs, f, hc⟩ := hu b o p n c e
   have hlt : b < w.heap.size := by
    rcases Nat.lt_or_ge b w.heap.size with h | h
    · exact h
    · rw [Array.getElem?_eq_none h] at hc; cases hc
   exact ⟨cs, f, (hb.block b hlt).trans hc⟩
theorem LitB.reads (h : LitB w base v xs) (hB : base ≤ w.heap.size) : Bs w w.heap.size v xs := by
 rcases h with h | ⟨h, _⟩
 · exact h.more hB
 · exact h
theorem LitB.up (h : LitB w base v xs) (hB : base ≤ B) : LitB w B v xs := by
 rcases h with h | h
 · exact .inl (h.more hB)
 · exact .inr h
theorem LitB.one (h : LitB w base v xs) : v.oneCell' = true := by
 rcases h with h | ⟨h, _⟩
 · exact bs_one_ h
 · exact bs_one_ h
/-- A write into a younger block of another type. -/
theorem LitB.past_ {row : Option Nat} (h : LitB w base v xs) (hg : w.grownBy w' row) (hr : ∀ k, row = some k → base ≤ k ∧ ∀ cs f, w.heap[k]? ≠ some (.cells cs 5 f)) (hB : base ≤ w.heap.size) : LitB w' base v xs := by
 rcases h with h | ⟨h, hu⟩
 · refine .inl (Rd.keep h fun p hp => World.cell?_of_block (hg.block p.block (Nat.lt_of_lt_of_le hp hB) (fun e => ?_)))
   have := (hr _ e.symm).1
   omega
 · have hlt : ∀ (b : Nat) (cs : Array Value) (f : Nat × Nat), w.heap[b]? = some (.cells cs 5 f) → b < w.heap.size := fun b cs f hc => by
    rcases Nat.lt_or_ge b w.heap.size with h | h
    · exact h
    · rw [Array.getElem?_eq_none h] at hc; cases hc
   refine .inr ⟨?_, fun b o p n c e => ?_⟩
   · obtain ⟨A, c, rfl, h1, h2, h4, h3⟩ := h
     refine ⟨A, c, rfl, h1, h2, h4, fun hp => ?_⟩
     obtain ⟨b, o, rfl, hb, hc⟩ := h3 hp
     obtain ⟨cs, f, hcs⟩ := hu b o none _ _ rfl
     exact ⟨b, o, rfl, Nat.lt_of_lt_of_le hb hg.size, fun j u hj => (World.cell?_of_block (hg.block b hb (fun e => (hr b e.symm).2 cs f hcs))).trans (hc j u hj)⟩
   · obtain ⟨cs, f, hcs⟩ := hu b o p n c e
     exact ⟨cs, f, (hg.block b (hlt b cs f hcs) (fun e => (hr b e.symm).2 cs f hcs)).trans hcs⟩
theorem LitB.past {g : Nat} {t : TypeId} {cs : List Value} (h : LitB w base v xs) (hk : Blk w g t cs) (hb : base ≤ g) (ht : (t == 5) = false) (hg : w.grownBy w' (some g)) (hB : base ≤ w.heap.size) : LitB w' base v xs :=
 h.past_ hg (fun k e => by
  injection e with e
  subst e
  refine ⟨hb, fun cs' f h' => ?_⟩
  have hk' : w.heap[g]? = _ := hk
  rw [hk'] at h'
  injection h' with h'
  injection h' with _ ht' _
  subst ht'
  cases ht) hB
theorem LitB.pastOwn {v' : Value} {n size : Nat} {t : TypeId} {vs : List Value} (h : LitB w base v xs) (ho : w.ownsRow base t size v' n vs) (ht : (t == 5) = false) (hg : w.grownBy w' v'.ownBlock) (hB : base ≤ w.heap.size) : LitB w' base v xs :=
 h.past_ hg (fun k e => by
  refine ⟨own_base ho k e, fun cs' f h' => ?_⟩
  rcases ho.2 with ⟨rfl, _⟩ | ⟨g', cap', cur', rfl, _, hh, _⟩
  · cases e
  · simp [Value.ownBlock] at e
    subst e
    rw [hh] at h'
    injection h' with h'
    injection h' with _ ht' _
    subst ht'
    cases ht) hB
end
/-- An entry with the values of its literals. -/
structure EntL where
 e : EntD
 lr : Value
 lw : Value
def EntL.cells (x : EntL) : List Value := entC x.e x.lr x.lw
structure EntL.Ok (w : World) (base : Nat) (x : EntL) : Prop where
 wf : x.e.Wf
 r : LitB w base x.lr x.e.read.lit
 w_ : LitB w base x.lw x.e.write.lit
theorem EntL.len {x : EntL} (h : x.e.Wf) : x.cells.length = 108 := ent_lenL ⟨h.rWf.keyL, h.rWf.fpL⟩ ⟨h.wWf.keyL, h.wWf.fpL⟩
/-- A list of entries of the call's own: the row from block 'base' on; literals elder than B, or in blocks of bytes. -/
def OwnEnts (w : World) (base B : Nat) (v : Value) (l : List EntD) : Prop :=
 B ≤ base ∧ ∃ ls : List EntL, ls.map EntL.e = l ∧ w.ownsRow base 45 108 v l.length (ls.flatMap EntL.cells) ∧ ∀ x ∈ ls, x.Ok w B
section
variable {w w' : World} {base B : Nat} {v : Value} {l : List EntD}
theorem EntL.Ok.keptB {x : EntL} (h : x.Ok w base) (hb : Below w.heap.size w w') (hB : base ≤ w.heap.size) : x.Ok w' base := ⟨h.wf, h.r.keptB hb hB, h.w_.keptB hb hB⟩
theorem OwnEnts.nil_ (w : World) {base B : Nat} (h : B ≤ base) : OwnEnts w base B (.slice none 0 0) [] := ⟨h, [], rfl, World.ownsRow_nil _ _ _ _, fun t ht => by cases ht⟩
theorem OwnEnts.le (h : OwnEnts w base B v l) : B ≤ base := h.1
theorem OwnEnts.keptB (h : OwnEnts w base B v l) (hb : Below w.heap.size w w') (hB : base ≤ w.heap.size) : OwnEnts w' base B v l := by
 obtain ⟨h0, ls, e, h1, h2⟩ := h
 exact ⟨h0, ls, e, own_keptB h1 hb, fun x hx => (h2 x hx).keptB hb (Nat.le_trans h0 hB)⟩
theorem OwnEnts.lower {base' B' : Nat} (h : OwnEnts w base B v l) (h1 : base' ≤ base) (h2 : B ≤ B') (h3 : B' ≤ base') : OwnEnts w base' B' v l := by
 obtain ⟨h0, ls, e, ho, hl⟩ := h
 exact ⟨h3, ls, e, own_more ho h1, fun x hx => ⟨(hl x hx).wf, (hl x hx).r.up h2, (hl x hx).w_.up h2⟩⟩
theorem OwnEnts.shape (h : OwnEnts w base B v l) : ∃ A c, v = .slice A l.length c := by
 obtain ⟨h0, ls, e, h1, h2⟩ := h
 exact own_shape h1
theorem OwnEnts.one (h : OwnEnts w base B v l) : v.oneCell' = true := by
 obtain ⟨A, c, rfl⟩ := h.shape
 rfl
theorem OwnEnts.base_ (h : OwnEnts w base B v l) : ∀ k, v.ownBlock = some k → base ≤ k := by
 obtain ⟨h0, ls, e, h1, h2⟩ := h
 exact own_base h1
theorem OwnEnts.lt (h : OwnEnts w base B v l) : ∀ k, v.ownBlock = some k → k < w.heap.size := by
 obtain ⟨h0, ls, e, h1, h2⟩ := h
 exact fun k hk => (h1.lt k hk).2
theorem OwnEnts.wf (h : OwnEnts w base B v l) : ∀ x ∈ l, x.Wf := by
 obtain ⟨h0, ls, rfl, h1, h2⟩ := h
 intro x hx
 obtain ⟨y, hy, rfl⟩ := List.mem_map.1 hx
 exact (h2 y hy).wf
theorem flat_get {α : Type} {f : α → List Value} {s : Nat} : ∀ (l : List α) (hl : ∀ t ∈ l, (f t).length = s) (i : Nat) (hi : i < l.length) (j : Nat) (u : Value), (f l[i])[j]? = some u → (l.flatMap f)[i * s + j]? = some u
 | [], _, i, hi, _, _, _ => absurd hi (by simp)
 | t :: l, hl, 0, _, j, u, h => by
  have h' : (f t)[j]? = some u := h
  rw [Nat.zero_mul, Nat.zero_add, List.flatMap_cons]
  exact (List.getElem?_append_left (List.getElem?_eq_some_iff.1 h').1).trans h'
 | t :: l, hl, i + 1, hi, j, u, h => by
  have ht := hl t List.mem_cons_self
  rw [List.flatMap_cons, List.getElem?_append_right (by rw [ht, Nat.succ_mul]; omega), ht, show (i + 1) * s + j - s = i * s + j by rw [Nat.succ_mul]; omega]
  exact flat_get l (fun x hx => hl x (List.mem_cons_of_mem _ hx)) i (by simpa using hi) j u h
theorem OwnEnts.reads (h : OwnEnts w base B v l) (hB : base ≤ w.heap.size) : EntsB w w.heap.size v l := by
 obtain ⟨h0, ls, rfl, h1, h2⟩ := h
 obtain ⟨A, c, hv, a1, a2, a4, a3⟩ := Rd.of_own h1
 refine ⟨A, c, hv, a1, a2, fun hp => ?_⟩
 obtain ⟨b, o, rfl, hb, hc⟩ := a3 hp
 refine ⟨b, o, rfl, hb, fun i hi => ?_⟩
 have hi' : i < ls.length := by simpa using hi
 have hx := h2 _ (List.getElem_mem hi')
 refine ⟨ls[i].lr, ls[i].lw, ?_, fun j u hu => ?_⟩
 · rw [List.getElem_map]
   exact { hx.wf with r1 := hx.r.reads (Nat.le_trans h0 hB), w1 := hx.w_.reads (Nat.le_trans h0 hB) }
 · rw [List.getElem_map] at hu
   rw [Nat.add_assoc]
   exact hc _ u (flat_get ls (fun t ht => EntL.len (h2 t ht).wf) i hi' j u hu)
/-- A write into another block that is none of bytes. -/
theorem OwnEnts.past {g : Nat} {t : TypeId} {cs : List Value} (h : OwnEnts w base B v l) (hk : Blk w g t cs) (hb : B ≤ g) (ht : (t == 5) = false) (hne : v.ownBlock ≠ some g) (hg : w.grownBy w' (some g)) (hB : base ≤ w.heap.size) : OwnEnts w' base B v l := by
 obtain ⟨h0, ls, e, h1, h2⟩ := h
 exact ⟨h0, ls, e, h1.kept hg (.inr hne), fun x hx => ⟨(h2 x hx).wf, (h2 x hx).r.past hk hb ht hg (Nat.le_trans h0 hB), (h2 x hx).w_.past hk hb ht hg (Nat.le_trans h0 hB)⟩⟩
end
section
variable {ops : Array Oper} {rest : List Oper} {o : Oper} {a : Act} {w : World} {Q : Exit → Act → World → Prop}
/-- A list of one entry from a literal. -/
theorem wpList_lit_ent (hgd : o.guard = none) (x : Operand) (ho : o.op = .buildSlice 29 1 #[(0, x)]) (y : EntL) (hy : y.e.Wf) (hx : a.eval x = .agg y.cells.toArray)
 (h : wpList Tryd.prog ops Q rest (a.put o.dst (.slice (some ⟨w.heap.size, 0, none⟩) 1 1)) (w.alloc (.cells y.cells.toArray 45))) : wpList Tryd.prog ops Q (o :: rest) a w := by
 obtain ⟨i, z, hu, hi, hz, hsize, hby, hzs, _, _⟩ := el_ents
 refine wpList_buildSlice hgd 29 45 1 _ ho y.cells.toArray i z hu hi hz (by rw [hsize]; omega) (by rw [hsize]; omega) ?_ h
 have e : (#[(0, x)].map fun (p : Nat × Operand) => (p.1, a.eval p.2)).toList = ([Value.agg y.cells.toArray].zipIdx 0).map fun x => (x.2, x.1) := by simp [hx]
 rw [e, hsize]
 have := Great.fill_whole (s := 108) (by decide) [Value.agg y.cells.toArray] ((Array.range (1 * 108)).map (z.cells[· % z.cells.size]!)) (by intro u hu; rw [List.mem_singleton.1 hu]; show y.cells.toArray.size = 108; rw [List.size_toArray, EntL.len hy]) (by simp)
 rw [this]
 congr 2
 show ([Value.agg y.cells.toArray].flatMap fun v => v.cells.toList) = y.cells
 simp [Value.cells]
/-- 'l = append(l, e)': the world behind the block of e. -/
theorem wpList_append_ent (hgd : o.guard = none) (s x : Operand) (ho : o.op = .call { callee := .builtin .append, args := #[s, x], argTypes := #[29, 29] })
 (base B : Nat) (v : Value) (l : List EntD) (hs : a.eval s = v) (hown : OwnEnts w base B v l) (hB : base ≤ w.heap.size) (hn : l.length ≤ 1000000) (y : EntL) (hy : y.Ok w B)
 (hx : a.eval x = .slice (some ⟨w.heap.size, 0, none⟩) 1 1)
 (h : ∀ v' w', OwnEnts w' base B v' (l ++ [y.e]) → Below base w w' → (∀ k, k < w.heap.size → v.ownBlock ≠ some k → w'.heap[k]? = w.heap[k]?) → wpList Tryd.prog ops Q rest (a.put o.dst v') w') : wpList Tryd.prog ops Q (o :: rest) a (w.alloc (.cells y.cells.toArray 45)) := by
 have hba := (Below.refl w.heap.size w).alloc (Nat.le_refl _) (.cells y.cells.toArray 45)
 obtain ⟨h0, ls, rfl, h1, h2⟩ := hown
 have h1' := own_keptB h1 hba
 have hz := hba.size
 have hyl := EntL.len hy.wf
 have hrd := Rd.of_blk (B := w.heap.size + 1) (Blk.new w 45 y.cells) (by omega) 108 1 1 (by rw [hyl]) (Nat.le_refl _) (by decide)
 refine wpList_append_rd _ hgd s x _ ho base _ 108 232 el_ents v (ls.map EntL.e).length _ hs h1' (w.heap.size + 1) _ 1 y.cells hx hrd (ent_oneL hy.r.one hy.w_.one) (by omega) (by omega) ?_
 intro v' w' ho' hg _
 have h1B := own_more h1' h0
 have hgk : ∀ x : EntL, x.Ok w B → x.Ok w' B := fun x hx => by
  have hx' := hx.keptB hba (Nat.le_trans h0 hB)
  have hB' := Nat.le_trans h0 (Nat.le_trans hB hz)
  exact ⟨hx.wf, hx'.r.pastOwn h1B (by kernel_rfl) hg hB', hx'.w_.pastOwn h1B (by kernel_rfl) hg hB'⟩
 refine h v' w' ⟨h0, ls ++ [y], by simp, ?_, fun x hx => ?_⟩ ?_ (fun k hk hne => (hg.block k (Nat.lt_of_lt_of_le hk hz) (Ne.symm hne)).trans (hba.block k hk))
 · rw [List.flatMap_append, List.length_append, List.flatMap_singleton]
   exact ho'
 · rcases List.mem_append.1 hx with hx | hx
   · exact hgk x (h2 x hx)
   · obtain rfl := List.mem_singleton.1 hx; exact hgk x hy
 · exact (hba.mono hB).grown hg (Nat.le_trans hB hz) (fun k hk => own_base h1 k hk)
end
end Go.Proofs.YthdjgebbjogmiaaDoor

namespace Go.Proofs.YthdjgebbjogmiaaDoor
open Go Go.RowKit
set_option maxRecDepth 100000
theorem strOf_take (xs : List Int) (n : Nat) : (strOfNums xs).extract 0 n = strOfNums (xs.take n) := by
 apply ByteArray.ext
 apply Array.ext'
 simp [strOfNums]
theorem strOf_app (xs ys : List Int) : strOfNums xs ++ strOfNums ys = strOfNums (xs ++ ys) := by
 apply ByteArray.ext
 apply Array.ext'
 simp [strOfNums]
section
variable {o : Oper} {a : Act} {w : World}
theorem exec_slice_name (x : Operand) (y : Operand) (ho : o.op = .slice 9 x none (some y) none) (xs : List Int) (hx : a.eval x = .string (strOfNums xs)) (n : Nat) (hy : a.eval y = .int .i64 (n : Int)) (hn : n ≤ xs.length) :
 (execOp a.eval o).run Tryd.prog w = .ok (.value (.string (strOfNums (xs.take n)))) w := by
 unfold execOp
 simp only [ho, hx, hy, Option.map_some, Option.map_none]
 have h := run_slice_string_h w 9 (strOfNums xs) Tryd.underlying9 .i64 (n : Int) (by omega) (by rw [strOfNums_size]; omega)
 rw [Int.toNat_natCast, strOf_take] at h
 simp only [Sem.run_bind, run_sliceAt_string _ _ _ _ _ _ Tryd.underlying9, h, Result.andThen_ok]
 rfl
theorem exec_len_strM (x : Operand) (ho : o.op = .call { callee := .builtin .len, args := #[x], argTypes := #[9] }) (nm : List Int) (hx : a.eval x = .string (strOfNums nm)) : (execOp a.eval o).run Tryd.prog w = .ok (.value (.int .i64 (nm.length : Int))) w := by
 unfold execOp
 simp only [ho, resolve, invoke, builtin, Sem.run_bind, Sem.run_pure, Result.andThen_ok, List.map_toArray, List.map_cons, List.map_nil, hx]
 simp [Builtin.len_, run_underlying Tryd.underlying9, goInt, strOfNums_size]
end
theorem CapD.Wf.cut {c : CapD} (h : c.Wf) (n : Nat) : CapD.Wf { c with lit := c.lit.take n } := ⟨h.keyL, h.keyB, h.fpL, h.fpB, fun x hx => h.litB x (List.mem_of_mem_take hx)⟩
/-- An entry that is small enough to be played. -/
def cutE (e : EntD) : EntD := ⟨e.name.take 70, { e.read with lit := e.read.lit.take 70 }, { e.write with lit := e.write.lit.take 70 }, e.has⟩
def cutEnts (l : List EntD) : List EntD := (l.take 18).map cutE
theorem cutE_wf {e : EntD} (h : e.Wf) : (cutE e).Wf := ⟨fun x hx => h.nameB x (List.mem_of_mem_take hx), h.rWf.cut 70, h.wWf.cut 70⟩
theorem cutE_lit (e : EntD) : (cutE e).read.lit.length ≤ 70 ∧ (cutE e).write.lit.length ≤ 70 := ⟨List.length_take_le _ _, List.length_take_le _ _⟩
theorem cutEnts_lit (l : List EntD) : ∀ e ∈ cutEnts l, e.read.lit.length ≤ 1000000 ∧ e.write.lit.length ≤ 1000000 := fun e he => by
 obtain ⟨x, _, rfl⟩ := List.mem_map.1 he
 have := cutE_lit x
 omega
theorem cutEnts_len (l : List EntD) : (cutEnts l).length ≤ 18 := by unfold cutEnts; rw [List.length_map]; exact List.length_take_le _ _
theorem cutEnts_at (l : List EntD) (i : Nat) (h : i < l.length) : (l.take (i + 1)).map cutE = (l.take i).map cutE ++ [cutE l[i]] := by
 rw [List.take_succ_eq_append_getElem h, List.map_append]
 rfl
end Go.Proofs.YthdjgebbjogmiaaDoor

namespace Go.Proofs.YthdjgebbjogmiaaDoor
open Go Go.RowKit
set_option maxRecDepth 100000
theorem World.grownBy.drewG (w : World) (r : Option Nat) : w.grownBy w.drew r := ⟨rfl, rfl, rfl, Nat.le_refl _, fun _ _ _ => rfl⟩
theorem World.grownBy.transG {a b c : World} {r : Option Nat} (h : a.grownBy b r) (h' : b.grownBy c r) : a.grownBy c r :=
 ⟨h'.os.trans h.os, h'.tape.trans h.tape, h'.output.trans h.output, Nat.le_trans h.size h'.size, fun k hk hne => by rw [h'.block k (Nat.lt_of_lt_of_le hk h.size) hne, h.block k hk hne]⟩
theorem Below.toGrown {w w' : World} (h : Below w.heap.size w w') (r : Option Nat) : w.grownBy w' r := ⟨h.os, h.tape, h.output, h.size, fun k hk _ => h.block k hk⟩
end Go.Proofs.YthdjgebbjogmiaaDoor

namespace Go.Proofs.YthdjgebbjogmiaaDoor
open Go Go.RowKit
set_option linter.unusedVariables false
set_option maxRecDepth 100000
section
variable {e : EntD} {x y : Value}
theorem ent_setRead (h1 : LenE e) (c : CapD) (l : Value) (hk : c.key.length = 16) (hf : c.fp.length = 32) : lset (entC e x y) 1 (capCells c l) = entC { e with read := c } l y := by
 have := lset_app (capCells c l) [Value.string (strOfNums e.name)] (capCells e.write y ++ [.bool e.has]) (capCells e.read x) (by rw [cc_len x h1.rk h1.rf, cc_len l hk hf])
 exact this
theorem ent_setWrite (h1 : LenE e) (h2 : LenW e) (c : CapD) (l : Value) (hk : c.key.length = 16) (hf : c.fp.length = 32) : lset (entC e x y) 54 (capCells c l) = entC { e with write := c } x l := by
 have := lset_app (capCells c l) (Value.string (strOfNums e.name) :: capCells e.read x) [.bool e.has] (capCells e.write y) (by rw [cc_len y h2.wk h2.wf, cc_len l hk hf])
 rw [List.length_cons, cc_len x h1.rk h1.rf] at this
 exact this
theorem ent_setHas (h1 : LenE e) (h2 : LenW e) (b : Bool) : (entC e x y).set 107 (.bool b) = entC { e with has := b } x y := by
 unfold entC
 rw [List.set_cons_succ, List.set_append_right _ _ (by rw [cc_len x h1.rk h1.rf]; omega), cc_len x h1.rk h1.rf, List.set_append_right _ _ (by rw [cc_len y h2.wk h2.wf]; omega), cc_len y h2.wk h2.wf]
 rfl
theorem cap_ones {c : CapD} {l : Value} (h : l.oneCell' = true) : ∀ u ∈ capCells c l, u.oneCell' = true := cc_ones h
theorem size_capL {c : CapD} {l : Value} (hk : c.key.length = 16) (hf : c.fp.length = 32) : (Tryd.prog.info? 28).map (·.size) = some (capCells c l).length := by rw [cc_len l hk hf]; exact size_cap
theorem size_entL {e : EntD} {x y : Value} (h1 : LenE e) (h2 : LenW e) : (Tryd.prog.info? 45).map (·.size) = some (entC e x y).length := by rw [ent_lenL h1 h2]; exact size_ent
theorem none_LE : LenE EntD.none_ ∧ LenW EntD.none_ := ⟨⟨rfl, rfl⟩, ⟨rfl, rfl⟩⟩
theorem EntD.Wf.lens {e : EntD} (h : e.Wf) : LenE e ∧ LenW e := ⟨⟨h.rWf.keyL, h.rWf.fpL⟩, ⟨h.wWf.keyL, h.wWf.fpL⟩⟩
end
theorem Own8.past_ {w w' : World} {base g : Nat} {v : Value} {xs : List Int} {t : TypeId} {cs : List Value} (h : Own8 w base v xs) (hk : Blk w g t cs) (ht : (t == 5) = false) (hg : w.grownBy w' (some g)) : Own8 w' base v xs := by
 refine World.ownsRow.kept h hg ?_
 rcases h.2 with ⟨rfl, _⟩ | ⟨g', cap', cur', rfl, _, hh, _⟩
 · exact .inl rfl
 · refine .inr fun e => ?_
   simp [Value.ownBlock] at e
   subst e
   have hk' : w.heap[g']? = _ := hk
   rw [hh] at hk'
   injection hk' with hh'
   injection hh' with _ ht' _
   subst ht'
   cases ht
theorem built_entN (s : ByteArray) : Tryd.prog.built 45 [(0, .string s)] = some (Value.string s :: (capCells CapD.none_ (.slice none 0 0) ++ (capCells CapD.none_ (.slice none 0 0) ++ [.bool false]))).toArray := by kernel_rfl
section
variable {o : Oper} {a : Act} {w : World} {K : Act → World → Prop} {Q : Exit → Act → World → Prop}
theorem exec_int_u8 (x : Operand) (p : Int) (hx : a.eval x = .int .i64 p) (ho : o.op = .convert 3 5 x) (h0 : 0 ≤ p) (h1 : p < 256) : (execOp a.eval o).run Tryd.prog w = .ok (.value (.int .u8 p)) w := by
 unfold execOp
 simp only [ho, hx]
 go_simp
 have e : IntKind.u8.wrap p = p := by
  simp only [IntKind.wrap, IntKind.signed, IntKind.bits]
  simp
  omega
 first | rw [e] | simp [e]
theorem exec_minG (x y : Operand) (ho : o.op = .call { callee := .builtin .min, args := #[x, y], argTypes := #[3, 3] }) (p q z : Int) (hx : a.eval x = .int .i64 p) (hy : a.eval y = .int .i64 q) (hz : min p q = z) : (execOp a.eval o).run Tryd.prog w = .ok (.value (.int .i64 z)) w := by
 subst hz
 unfold execOp
 simp only [ho, resolve, invoke, builtin, Sem.run_bind, Sem.run_pure, Result.andThen_ok, List.map_toArray, List.map_cons, List.map_nil, hx, hy]
 go_simp
theorem wp_alloc_blkG {P : Program} (t d : Nat) (ho : o.op = .alloc t) (hd : o.dst = some d) (cs : List Value)
 (hz : (P.info? t).map (·.zero) = some (some (.agg cs.toArray)))
 (h : ∀ g w', w.heap.size ≤ g → Blk w' g t cs → Below w.heap.size w w' → K (a.put (some d) (.pointer (some ⟨g, 0, none⟩))) w') : o.wp P a w K Q :=
 wp_alloc_blkD t d ho hd cs hz fun w' h1 h2 _ => h _ w' (Nat.le_refl _) h1 h2
end
end Go.Proofs.YthdjgebbjogmiaaDoor

namespace Go.Proofs.YthdjgebbjogmiaaDoor
open Go Go.RowKit
set_option maxRecDepth 100000

theorem writeF_valid {c : CapD} (h : c.Valid) : writeF c = decide (c.kind = 4 ∨ c.kind = 7) := by
 unfold writeF
 rw [decide_eq_true h, Bool.eq_iff_iff]
 simp
end Go.Proofs.YthdjgebbjogmiaaDoor

namespace Go.Proofs.YthdjgebbjogmiaaDoor
open Go Go.RowKit
set_option maxRecDepth 100000
set_option linter.unusedVariables false
def rcapE (x : EntD) : CapD := if (!readF (rightF x.read)) || x.has then slotF x.read.key x.read.fp else rightF x.read
def rightE (i : Nat) (x : EntD) : EntD := ⟨(97 + (i : Int)) :: x.name.take 10, roF (rcapE x), if writeF (rcapE x) && x.has then rcapE x else CapD.none_, writeF (rcapE x) && x.has⟩
def rightsN (l : List EntD) (k : Nat) : List EntD := (List.range k).map fun i => rightE i (l.getD i EntD.none_)
def rightsL (l : List EntD) : List EntD := rightsN l (min l.length 6)
theorem rightsN_snoc (l : List EntD) (k : Nat) (h : k < l.length) : rightsN l (k + 1) = rightsN l k ++ [rightE k l[k]] := by
 unfold rightsN
 rw [List.range_succ, List.map_append, List.map_singleton, List.getD_eq_getElem?_getD, List.getElem?_eq_getElem h]
 rfl
theorem rightsN_len (l : List EntD) (k : Nat) : (rightsN l k).length = k := by simp [rightsN]
theorem slotF_valid (k f : List Int) : (slotF k f).Valid := .inr (.inr ⟨by show (4 : Int) ≤ 4; omega, by show (4 : Int) ≤ 9; omega, rfl, rfl, rfl, rfl⟩)
theorem slotF_write (k f : List Int) : writeF (slotF k f) = true := by rw [writeF_valid (slotF_valid k f)]; rfl
theorem slotF_wf {k f : List Int} (h : f.length = 32) (hb : Bytes f) : (slotF k f).Wf := ⟨keyF_len _ _, keyF_bytes _ _, h, hb, fun x hx => by cases hx⟩
theorem rcap_wf {x : EntD} (h : x.Wf) : (rcapE x).Wf := by
 unfold rcapE
 split
 · exact slotF_wf h.rWf.fpL h.rWf.fpB
 · exact right_wf h.rWf
theorem rightE_wf {i : Nat} (hi : i < 6) {x : EntD} (h : x.Wf) : (rightE i x).Wf := ⟨fun y hy => by
 rcases List.mem_cons.1 hy with rfl | hy
 · omega
 · exact h.nameB y (List.mem_of_mem_take hy), roF_wf (rcap_wf h), by
 unfold rightE
 dsimp only
 split
 · exact rcap_wf h
 · exact CapD.none_wf⟩
theorem rights_mem {l : List EntD} {e : EntD} (h : e ∈ rightsL l) : ∃ i, i < 6 ∧ ∃ x ∈ l, e = rightE i x := by
 unfold rightsL rightsN at h
 obtain ⟨i, hi, rfl⟩ := List.mem_map.1 h
 have hi' := List.mem_range.1 hi
 refine ⟨i, by omega, l[i]'(by omega), List.getElem_mem _, ?_⟩
 rw [List.getD_eq_getElem?_getD, List.getElem?_eq_getElem (by omega)]
 rfl
theorem rights_lit {l : List EntD} : ∀ e ∈ rightsL l, e.read.lit.length ≤ 1000000 ∧ e.write.lit.length ≤ 1000000 := fun e he => by
 obtain ⟨i, hi, x, hx, rfl⟩ := rights_mem he
 have h1 : (roF (rcapE x)).lit.length ≤ 64 := roF_lit_le
 refine ⟨by show (roF (rcapE x)).lit.length ≤ _; omega, ?_⟩
 unfold rightE
 dsimp only
 split
 · rename_i hw
   rw [Bool.and_eq_true] at hw
   have := (writeF_kind hw.1).2.2
   rw [this]
   simp
 · simp [CapD.none_]
end Go.Proofs.YthdjgebbjogmiaaDoor
