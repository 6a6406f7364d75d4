/- Rows of bytes of the call's own, the spare cells bytes too; append onto them; conversions from and to strings. No condition. -/
import Derived.Test.YthdjgebbjogmiaaDoorJoin2
import Derived.ArgAppend
import Derived.Lib.ConvBytes
import Derived.Laws.BytesArg
import Derived.Great.BuildSlice
namespace Go.Proofs.YthdjgebbjogmiaaDoor
open Go Go.RowKit

/-- Block g is just the cells cs; f is its frozen range. -/
def BlkF (w : World) (g : Nat) (t : TypeId) (cs : List Value) (f : Nat × Nat) : Prop := w.heap[g]? = some (.cells cs.toArray t f)
section
variable {w w' : World} {g : Nat} {t : TypeId} {cs : List Value} {f : Nat × Nat}
theorem BlkF.lt (h : BlkF w g t cs f) : g < w.heap.size := by
 rcases Nat.lt_or_ge g w.heap.size with hlt | hge
 · exact hlt
 · unfold BlkF at h; rw [Array.getElem?_eq_none hge] at h; cases h
theorem BlkF.cell (h : BlkF w g t cs f) (i : Nat) : w.cell? ⟨g, i, none⟩ = cs[i]? := by
 unfold BlkF at h
 simp [World.cell?, h]
theorem BlkF.frozen (h : BlkF w g t cs f) (i : Nat) (hi : f.2 = 0 ∨ i < f.1) : w.frozen? ⟨g, i, none⟩ = false := by
 unfold BlkF at h
 obtain ⟨a, b⟩ := f
 simp [World.frozen?, h] at hi ⊢
 omega
theorem BlkF.set_ (h : BlkF w g t cs f) (i : Nat) (u : Value) : BlkF (w.setCell ⟨g, i, none⟩ u) g t (cs.set i u) f := by
 unfold BlkF at h ⊢
 simp [World.setCell, Array.getElem?_modify, h]
theorem BlkF.below {B : Nat} (h : BlkF w g t cs f) (hb : Below B w w') (hg : g < B) : BlkF w' g t cs f := (hb.block g hg).trans h
theorem BlkF.grown {row : Option Nat} (h : BlkF w g t cs f) (hb : w.grownBy w' row) (hg : some g ≠ row) : BlkF w' g t cs f := (hb.block g h.lt hg).trans h
theorem BlkF.setCells {g : Nat} {t : TypeId} {f : Nat × Nat} (vs : List Value) : ∀ {w : World} {cs : List Value} (o : Nat), BlkF w g t cs f → BlkF (w.setCells g o vs) g t (lset cs o vs) f := by
 induction vs with
 | nil => intro w cs o h; exact h
 | cons v r ih => intro w cs o h; exact ih (o + 1) (h.set_ o v)
end

/-- A row of bytes of the call's own: what is behind its length are bytes too. -/
def RowB (w : World) (base : Nat) (v : Value) (xs : List Int) : Prop :=
 (v = .slice none 0 0 ∧ xs = []) ∨ ∃ (g cap : Nat) (cur : List Int) (f : Nat × Nat), v = .slice (some ⟨g, 0, none⟩) xs.length cap ∧ base ≤ g ∧ BlkF w g 5 (u8s cur) f ∧ (f.2 = 0 ∨ cap ≤ f.1) ∧
  xs.length ≤ cap ∧ cap ≤ maxLen ∧ cur.length = cap ∧ Bytes cur ∧ cur.take xs.length = xs
section
variable {w w' : World} {base B B' : Nat} {v : Value} {xs : List Int}
theorem RowB.nil_ (w : World) (base : Nat) : RowB w base (.slice none 0 0) [] := .inl ⟨rfl, rfl⟩
theorem RowB.bytes (h : RowB w base v xs) : Bytes xs := by
 rcases h with ⟨_, rfl⟩ | ⟨g, cap, cur, f, _, _, _, _, _, _, _, hb, ht⟩
 · intro x hx; cases hx
 · intro x hx; rw [← ht] at hx; exact hb x (List.mem_of_mem_take hx)
theorem RowB.reads (h : RowB w base v xs) : Bs w w.heap.size v xs := by
 rcases h with ⟨rfl, rfl⟩ | ⟨g, cap, cur, f, rfl, _, hB, _, hl, hc, hcl, _, ht⟩
 · exact Bs.nil_ _ _
 · refine ⟨_, cap, rfl, hl, hc, by rw [u8s_len]; omega, fun _ => ⟨g, 0, rfl, hB.lt, fun j u hu => ?_⟩⟩
   rw [Nat.zero_add, hB.cell]
   have hj : j < xs.length := by
    have := (List.getElem?_eq_some_iff.1 hu).1
    rwa [u8s_len] at this
   rw [← hu, ← ht]
   unfold u8s
   rw [List.getElem?_map, List.getElem?_map, List.getElem?_take_of_lt hj]
theorem RowB.keptB (h : RowB w base v xs) (hb : Below w.heap.size w w') : RowB w' base v xs := by
 rcases h with ⟨rfl, rfl⟩ | ⟨g, cap, cur, f, rfl, h1, hB, h2⟩
 · exact RowB.nil_ _ _
 · exact .inr ⟨g, cap, cur, f, rfl, h1, hB.below hb hB.lt, h2⟩
theorem RowB.kept {row : Option Nat} (h : RowB w base v xs) (hg : w.grownBy w' row) (hne : v.ownBlock = none ∨ v.ownBlock ≠ row) : RowB w' base v xs := by
 rcases h with ⟨rfl, rfl⟩ | ⟨g, cap, cur, f, rfl, h1, hB, h2⟩
 · exact RowB.nil_ _ _
 · exact .inr ⟨g, cap, cur, f, rfl, h1, hB.grown hg (by rcases hne with h | h; cases h; exact h), h2⟩
theorem RowB.more (h : RowB w base v xs) (hb : B ≤ base) : RowB w B v xs := by
 rcases h with h | ⟨g, cap, cur, f, h0, h1, h2⟩
 · exact .inl h
 · exact .inr ⟨g, cap, cur, f, h0, by omega, h2⟩
theorem RowB.base_ (h : RowB w base v xs) : ∀ k, v.ownBlock = some k → base ≤ k ∧ k < w.heap.size := by
 rcases h with ⟨rfl, rfl⟩ | ⟨g, cap, cur, f, rfl, h1, hB, h2⟩
 · intro k hk; cases hk
 · intro k hk; cases hk; exact ⟨h1, hB.lt⟩
theorem RowB.shape (h : RowB w base v xs) : ∃ A c, v = .slice A xs.length c := by
 rcases h with ⟨rfl, rfl⟩ | ⟨g, cap, cur, f, rfl, _⟩
 · exact ⟨none, 0, rfl⟩
 · exact ⟨_, _, rfl⟩
theorem RowB.of_blk {g : Nat} (h : Blk w g 5 (u8s xs)) (hb : base ≤ g) (hx : Bytes xs) (hm : xs.length ≤ maxLen) : RowB w base (.slice (some ⟨g, 0, none⟩) xs.length xs.length) xs :=
 .inr ⟨g, xs.length, xs, (0, 0), rfl, hb, h, .inl rfl, Nat.le_refl _, hm, rfl, hx, List.take_of_length_le (Nat.le_refl _)⟩
end

theorem zero_cells (n : Nat) : Builtin.zeroCells (Value.int .u8 0).cells n = (u8s (List.replicate n 0)).toArray := by
 apply Array.ext
 · simp [Builtin.zeroCells, u8s, Value.cells]
 · intro i h1 h2
   simp [Builtin.zeroCells, u8s, Value.cells, Nat.mod_one]
theorem bytes_rep (n : Nat) : Bytes (List.replicate n 0) := fun x hx => by have := (List.mem_replicate.1 hx).2; subst this; omega
theorem Bytes.app {xs ys : List Int} (hx : Bytes xs) (hy : Bytes ys) : Bytes (xs ++ ys) := fun x h => by
 rcases List.mem_append.1 h with h | h
 · exact hx x h
 · exact hy x h

theorem u8_zero {i : TypeInfo} {z : Value} (hi : Tryd.prog.info? 5 = some i) (hz : i.zero = some z) : z = .int .u8 0 := by
 have : (Tryd.prog.info? 5).map (·.zero) = some (some (.int .u8 0)) := by kernel_rfl
 rw [hi] at this
 simp [hz] at this
 exact this

set_option maxRecDepth 100000 in
/-- 'append(s, x...)': s is a row of bytes of the call's own (or nil), x reads as bytes. -/
theorem run_append_B (w : World) (base : Nat) (ty : TypeId) (v : Value) (xs : List Int) (hown : RowB w base v xs) (B : Nat) (vx : Value) (ys : List Int) (hr : Bs w B vx ys) (hy : Bytes ys)
 (hbytes : xs.length + ys.length ≤ 140737488355328) (hbase : base ≤ w.heap.size) :
 ∃ v' w', (Builtin.append_ #[26, 26] ty #[v, vx]).run Tryd.prog w = .ok v' w' ∧ RowB w' base v' (xs ++ ys) ∧ w.grownBy w' v.ownBlock ∧ (v'.ownBlock = v.ownBlock ∨ v'.ownBlock = some w.heap.size) := by
 obtain ⟨i, z, ht, hi, hz, hsize, hby, hzs, _, _⟩ := el_u8
 have hz0 := u8_zero hi hz
 subst hz0
 have hxb := hown.bytes
 obtain ⟨A, c, rfl, hnc, hcm, hl, hc⟩ := hr
 have fresh : ∀ (old : Nat), old < xs.length + ys.length → ∀ row : Option Nat,
  RowB (w.drew.alloc (.cells ((u8s xs).toArray ++ (u8s ys).toArray ++ Builtin.zeroCells (Value.int .u8 0).cells (grownCap w (xs.length + ys.length) old 5 - (xs.length + ys.length))) 5)) base
   (.slice (some ⟨w.heap.size, 0, none⟩) (xs.length + ys.length) (grownCap w (xs.length + ys.length) old 5)) (xs ++ ys) ∧
  w.grownBy (w.drew.alloc (.cells ((u8s xs).toArray ++ (u8s ys).toArray ++ Builtin.zeroCells (Value.int .u8 0).cells (grownCap w (xs.length + ys.length) old 5 - (xs.length + ys.length))) 5)) row := by
  intro old ho row
  have hge := grownCap_ge w (xs.length + ys.length) old 5
  have hcm : grownCap w (xs.length + ys.length) old 5 ≤ maxLen := grownCap_le_maxLen w _ old _ (by unfold maxLen; omega)
  refine ⟨.inr ⟨w.heap.size, _, xs ++ ys ++ List.replicate (grownCap w (xs.length + ys.length) old 5 - (xs.length + ys.length)) 0, (0, 0), by rw [List.length_append], hbase, ?_, .inl rfl, by rw [List.length_append]; exact hge, hcm, ?_, (hxb.app hy).app (bytes_rep _), ?_⟩, ⟨rfl, rfl, rfl, by simp, fun k hk _ => heap_alloc_old w.drew _ hk⟩⟩
  · have e := heap_alloc_new w.drew (.cells ((u8s xs).toArray ++ (u8s ys).toArray ++ Builtin.zeroCells (Value.int .u8 0).cells (grownCap w (xs.length + ys.length) old 5 - (xs.length + ys.length))) 5)
    rw [zero_cells, List.append_toArray, List.append_toArray, u8s_app, u8s_app] at e ⊢
    exact e
  · rw [List.length_append, List.length_append, List.length_replicate]; omega
  · exact List.take_left' rfl
 have hcells : ∀ ad : Addr, A = some ad → ∀ j u, (u8s ys)[j]? = some u → w.cell? (ad.add j) = some u := by
  rintro ad rfl j u hu
  rcases Nat.eq_zero_or_pos ys.length with h0 | h0
  · have hn : ys = [] := List.eq_nil_of_length_eq_zero h0
    subst hn
    simp [u8s] at hu
  · obtain ⟨b, o, h, _, hc'⟩ := hc h0
    injection h with h
    subst h
    rw [Addr.add_lit]
    exact hc' j u hu
 have hnil : A = none → ys = [] := by
  rintro rfl
  rcases Nat.eq_zero_or_pos ys.length with h0 | h0
  · exact List.eq_nil_of_length_eq_zero h0
  · obtain ⟨b, o, h, _⟩ := hc h0
    cases h
 rcases hown with ⟨rfl, rfl⟩ | ⟨g, cap, cur, f, rfl, hbg, hB, hf, hnc', hcm', hcl, hcb, htake⟩
 · by_cases hm : ys.length = 0
   · have hn : ys = [] := List.eq_nil_of_length_eq_zero hm
     subst hn
     refine ⟨.slice none 0 0, w, ?_, RowB.nil_ _ _, World.grownBy.refl _ _, .inl rfl⟩
     rcases A with _ | ad
     · simp [Builtin.append_, run_underlying ht, sizeOf, typeInfo, hi, Builtin.lenOf, Builtin.firstCells, loadCells, loadCellsFrom]
     · simp [Builtin.append_, run_underlying ht, sizeOf, typeInfo, hi, Builtin.lenOf, Builtin.firstCells, loadCells, loadCellsFrom]
   · rcases A with _ | ad
     · exact absurd (by rw [hnil rfl]; rfl) hm
     · have hr := run_append_nil (P := Tryd.prog) w 26 ty 5 i (.int .u8 0) ht hi hz ad ys.length c (u8s ys) (by rw [u8s_len, hsize]; omega) (hcells ad rfl) (by omega) (by simp at hbytes; omega) (by simp at hbytes; rw [hby]; omega)
       have hg := fresh 0 (by omega) (Value.ownBlock (.slice none 0 0))
       simp only [List.length_nil, Nat.zero_add, List.nil_append, u8s, List.map_nil, Array.empty_append] at hg ⊢
       exact ⟨_, _, hr, hg.1, hg.2, .inr rfl⟩
 · have hlt := hB.lt
   by_cases hroom : xs.length + ys.length ≤ cap
   · rcases A with _ | ad
     · have hn := hnil rfl
       subst hn
       refine ⟨_, w, ?_, by rw [List.append_nil]; exact .inr ⟨g, cap, cur, f, rfl, hbg, hB, hf, hnc', hcm', hcl, hcb, htake⟩, World.grownBy.refl _ _, .inl rfl⟩
       have hroom' : xs.length ≤ cap := by simpa using hroom
       simp only [List.length_nil]
       simp [Builtin.append_, run_underlying ht, sizeOf, typeInfo, hi, Builtin.lenOf, Builtin.firstCells, hroom', storeCells]
     · have hr := run_append_room_cells (P := Tryd.prog) w 26 ty 5 i ht hi g 0 xs.length cap ad ys.length c (u8s ys) (by rw [u8s_len, hsize]; omega) (hcells ad rfl) (u8s_one _) hroom
        (fun j hj => by
         rw [u8s_len] at hj
         rw [hsize, hB.cell, List.getElem?_eq_getElem (by rw [u8s_len]; omega)]; rfl)
        (fun j hj => by
         rw [u8s_len] at hj
         exact hB.frozen _ (by rw [hsize]; rcases hf with h | h; exact .inl h; exact .inr (by omega)))
       rw [hsize, Nat.mul_one, Nat.zero_add] at hr
       have hB' := BlkF.setCells (u8s ys) xs.length hB
       refine ⟨_, _, hr, .inr ⟨g, cap, xs ++ ys ++ cur.drop (xs.length + ys.length), f, by rw [List.length_append], hbg, ?_, hf, by rw [List.length_append]; exact hroom, hcm', ?_, (hxb.app hy).app (fun x hx => hcb x (List.mem_of_mem_drop hx)), List.take_left' rfl⟩, (grown_setCells (u8s ys) w xs.length).1, .inl rfl⟩
       · have e : lset (u8s cur) xs.length (u8s ys) = u8s (xs ++ ys ++ cur.drop (xs.length + ys.length)) := by
          refine List.ext_getElem? fun j => ?_
          rw [lset_get _ _ _ _ (by rw [u8s_len, u8s_len]; omega)]
          unfold u8s
          by_cases hj : xs.length ≤ j ∧ j < xs.length + (List.map (Value.int IntKind.u8) ys).length
          · rw [if_pos hj]
            simp at hj
            rw [List.getElem?_map, List.getElem?_map, List.getElem?_append_left (by simp; omega), List.getElem?_append_right (by omega)]
          · rw [if_neg hj]
            simp at hj
            rw [List.getElem?_map, List.getElem?_map]
            by_cases h2 : j < xs.length
            · rw [List.getElem?_append_left (by simp; omega), List.getElem?_append_left h2]
              conv => rhs; rw [← htake]
              rw [List.getElem?_take_of_lt h2]
            · rw [List.getElem?_append_right (by simp; omega), List.getElem?_drop]
              congr 2
              simp; omega
         rw [← e]; exact hB'
       · rw [List.length_append, List.length_append, List.length_drop]; omega
   · rcases A with _ | ad
     · have hn := hnil rfl
       subst hn
       simp at hroom
       omega
     · have holds : ∀ j u, (u8s xs)[j]? = some u → w.cell? ((⟨g, 0, none⟩ : Addr).add j) = some u := fun j u hu => by
        rw [Addr.add_lit, Nat.zero_add, hB.cell]
        have hj : j < xs.length := by
         have := (List.getElem?_eq_some_iff.1 hu).1
         rwa [u8s_len] at this
        rw [← hu]
        conv => rhs; rw [← htake]
        unfold u8s
        rw [List.getElem?_map, List.getElem?_map, List.getElem?_take_of_lt hj]
       have hr := run_append_grow (P := Tryd.prog) w 26 ty 5 i (.int .u8 0) ht hi hz ⟨g, 0, none⟩ xs.length cap (u8s xs) (by rw [u8s_len, hsize]; omega) holds ad ys.length c (u8s ys) (by rw [u8s_len, hsize]; omega) (hcells ad rfl) (by omega) (by omega) (growslice_fits (by omega) (by rw [hby]; omega))
       have hg := fresh cap (by omega) (Value.ownBlock (.slice (some ⟨g, 0, none⟩) xs.length cap))
       exact ⟨_, _, hr, hg.1, hg.2, .inr rfl⟩
end Go.Proofs.YthdjgebbjogmiaaDoor
