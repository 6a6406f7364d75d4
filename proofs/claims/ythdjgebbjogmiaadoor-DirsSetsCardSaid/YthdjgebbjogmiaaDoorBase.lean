/- Words for memory that all the walks of this seat use: a slice that reads as a list, how that lasts, and the append onto a row of the call's own. No condition. -/
import Derived.WalkKit
import Derived.WalkSpells
import Derived.WalkLawsBesides
import Derived.Maps.AppendAt
import Derived.Handy
set_option linter.unusedVariables false
set_option linter.unusedSimpArgs false
namespace Go.Proofs.YthdjgebbjogmiaaDoor
open Go Go.RowKit
theorem s1_ {α : Type} {xs : List α} {i : Nat} {a : α} : xs.toArray.setIfInBounds i a = (xs.set i a).toArray := List.setIfInBounds_toArray ..
theorem s2_ {α : Type} {x : α} {xs : List α} {a : α} : (x :: xs).set 0 a = a :: xs := List.set_cons_zero
theorem s3_ {α : Type} {x : α} {xs : List α} {i : Nat} {a : α} : (x :: xs).set (i + 1) a = x :: xs.set i a := List.set_cons_succ

theorem hide {p : Prop} (h : p) : Hid p := h

theorem maxLen_eq : maxLen = 9223372036854775807 := rfl

/-- The slice value v has n elements of 'size' cells each, just the cells xs, all below block B. -/
def Rd (w : World) (B size : Nat) (v : Value) (n : Nat) (xs : List Value) : Prop :=
 ∃ (A : Option Addr) (c : Nat), v = .slice A n c ∧ n ≤ c ∧ c ≤ maxLen ∧ xs.length = n * size ∧
  (0 < n → ∃ b o, A = some ⟨b, o, none⟩ ∧ b < B ∧ ∀ j u, xs[j]? = some u → w.cell? ⟨b, o + j, none⟩ = some u)

section
variable {w w' : World} {B B' size n : Nat} {v : Value} {xs : List Value}
theorem Rd.keep (h : Rd w B size v n xs) (hk : ∀ p : Addr, p.block < B → w'.cell? p = w.cell? p) : Rd w' B size v n xs := by
 obtain ⟨A, c, rfl, h1, h2, h4, h3⟩ := h
 refine ⟨A, c, rfl, h1, h2, h4, fun hp => ?_⟩
 obtain ⟨b, o, rfl, hb, hc⟩ := h3 hp
 exact ⟨b, o, rfl, hb, fun j u hu => (hk _ hb).trans (hc j u hu)⟩
theorem Rd.more (h : Rd w B size v n xs) (hB : B ≤ B') : Rd w B' size v n xs := by
 obtain ⟨A, c, rfl, h1, h2, h4, h3⟩ := h
 refine ⟨A, c, rfl, h1, h2, h4, fun hp => ?_⟩
 obtain ⟨b, o, rfl, hb, hc⟩ := h3 hp
 exact ⟨b, o, rfl, by omega, hc⟩
theorem Rd.below (h : Rd w B size v n xs) (hb : Below B w w') : Rd w' B size v n xs := h.keep fun _ hp => hb.cell hp
theorem Rd.belowM (h : Rd w B size v n xs) (hb : Below B' w w') (hB : B ≤ B') : Rd w' B size v n xs := h.below (hb.mono hB)
theorem Rd.nil_ (w : World) (B size : Nat) : Rd w B size (.slice none 0 0) 0 [] := ⟨none, 0, rfl, Nat.le_refl _, by decide, by simp, fun h => absurd h (by omega)⟩
theorem Rd.len (h : Rd w B size v n xs) : xs.length = n * size := by obtain ⟨_, _, _, _, _, h4, _⟩ := h; exact h4
/-- An owned row reads as its cells. -/
theorem Rd.of_own {base : Nat} {e : TypeId} (h : w.ownsRow base e size v n xs) : Rd w w.heap.size size v n xs := by
 obtain ⟨hl, h⟩ := h
 rcases h with ⟨rfl, rfl⟩ | ⟨g, cap, cur, rfl, hb, hg, h1, h2, h3, h4⟩
 · exact ⟨none, 0, rfl, Nat.le_refl _, by decide, hl, fun h => absurd h (by omega)⟩
 · have hlt : g < w.heap.size := by
    rcases Nat.lt_or_ge g w.heap.size with h | h
    · exact h
    · rw [Array.getElem?_eq_none h] at hg; cases hg
   refine ⟨_, cap, rfl, h1, h2, hl, fun _ => ⟨g, 0, rfl, hlt, fun j u hu => ?_⟩⟩
   rw [← h4, List.getElem?_take] at hu
   split at hu
   · simp [World.cell?, hg]; simpa using hu
   · cases hu
end

/-- A slice of ints. -/
def Ints (w : World) (B : Nat) (v : Value) (xs : List Int) : Prop := Rd w B 1 v xs.length (xs.map (.int .i64))

section
variable {w w' : World} {B B' : Nat} {v : Value} {xs : List Int}
theorem Ints.open_ (h : Ints w B v xs) :
 ∃ (A : Option Addr) (c : Nat), v = .slice A xs.length c ∧ xs.length ≤ c ∧ c ≤ maxLen ∧
 (0 < xs.length → ∃ b o, A = some ⟨b, o, none⟩ ∧ b < B ∧ ∀ j (hj : j < xs.length), w.cell? ⟨b, o + j, none⟩ = some (.int .i64 xs[j])) := by
 obtain ⟨A, c, rfl, h1, h2, _, h3⟩ := h
 refine ⟨A, c, rfl, h1, h2, fun hp => ?_⟩
 obtain ⟨b, o, rfl, hb, hc⟩ := h3 hp
 exact ⟨b, o, rfl, hb, fun j hj => hc j _ (by simp [hj])⟩
theorem Ints.below (h : Ints w B v xs) (hb : Below B' w w') (hB : B ≤ B') : Ints w' B v xs := Rd.belowM h hb hB
theorem Ints.more (h : Ints w B v xs) (hB : B ≤ B') : Ints w B' v xs := Rd.more h hB
theorem Ints.nil_ (w : World) (B : Nat) : Ints w B (.slice none 0 0) [] := Rd.nil_ w B 1
theorem Ints.of_own {base : Nat} {e : TypeId} {n : Nat} (h : w.ownsRow base e 1 v n (xs.map (.int .i64))) : Ints w w.heap.size v xs := by
 have e : n = xs.length := by have := h.1; simp at this; omega
 subst e
 exact Rd.of_own h
end

/-- A slice of slices of ints. -/
def Rows2 (w : World) (B : Nat) (v : Value) (rows : List (List Int)) : Prop :=
 ∃ vs : List Value, Rd w B 1 v rows.length vs ∧ vs.length = rows.length ∧ ∀ i (hi : i < rows.length), ∃ u, vs[i]? = some u ∧ Ints w B u rows[i]

section
variable {w w' : World} {B B' : Nat} {v : Value} {rows : List (List Int)}
theorem Rows2.open_ (h : Rows2 w B v rows) :
 ∃ (A : Option Addr) (c : Nat), v = .slice A rows.length c ∧ rows.length ≤ c ∧ c ≤ maxLen ∧
 (0 < rows.length → ∃ b o, A = some ⟨b, o, none⟩ ∧ b < B ∧ ∀ j (hj : j < rows.length), ∃ u, w.cell? ⟨b, o + j, none⟩ = some u ∧ Ints w B u rows[j]) := by
 obtain ⟨vs, ⟨A, c, rfl, h1, h2, h4, h3⟩, hl, hr⟩ := h
 refine ⟨A, c, rfl, h1, h2, fun hp => ?_⟩
 obtain ⟨b, o, rfl, hb, hc⟩ := h3 hp
 refine ⟨b, o, rfl, hb, fun j hj => ?_⟩
 obtain ⟨u, hu, hi⟩ := hr j hj
 exact ⟨u, hc j u hu, hi⟩
theorem Rows2.below (h : Rows2 w B v rows) (hb : Below B' w w') (hB : B ≤ B') : Rows2 w' B v rows := by
 obtain ⟨vs, hv, hl, hr⟩ := h
 refine ⟨vs, hv.belowM hb hB, hl, fun i hi => ?_⟩
 obtain ⟨u, hu, hx⟩ := hr i hi
 exact ⟨u, hu, hx.below hb hB⟩
theorem Rows2.more (h : Rows2 w B v rows) (hB : B ≤ B') : Rows2 w B' v rows := by
 obtain ⟨vs, hv, hl, hr⟩ := h
 refine ⟨vs, hv.more hB, hl, fun i hi => ?_⟩
 obtain ⟨u, hu, hx⟩ := hr i hi
 exact ⟨u, hu, hx.more hB⟩
end

/-- What the table says of a slice type and its element: t is a slice of e; e takes 'size' cells, 'bytes' bytes. -/
def ElemOf (P : Program) (t e : TypeId) (size bytes : Nat) : Prop :=
 ∃ i z, P.underlying t = some (.slice e) ∧ P.info? e = some i ∧ i.zero = some z ∧ i.size = size ∧ i.bytes = bytes ∧ z.cells.size = size ∧ 0 < size ∧ 0 < bytes

theorem elem_of {P : Program} {t e : TypeId} {z : Value} {size bytes : Nat} (ht : P.underlying t = some (.slice e)) (h : (P.info? e).map (fun i => (i.zero, i.size, i.bytes)) = some (some z, size, bytes))
 (hz : z.cells.size = size) (h1 : 0 < size) (h2 : 0 < bytes) : ElemOf P t e size bytes := by
 obtain ⟨i, hi, hz0, hz1, hz2⟩ := info_parts h
 exact ⟨i, z, ht, hi, hz0, hz1, hz2, hz, h1, h2⟩

section
variable {P : Program} (w : World)
theorem run_append_of_nil (base : Nat) (t ty e : TypeId) (i : TypeInfo) (size : Nat) (ht : P.underlying t = some (.slice e)) (hi : P.info? e = some i)
 (v : Value) (n : Nat) (xs : List Value) (hown : w.ownsRow base e size v n xs) (c : Nat) : (Builtin.append_ #[t, t] ty #[v, .slice none 0 c]).run P w = .ok v w := by
 rcases hown.2 with ⟨rfl, rfl⟩ | ⟨g, cap, cur, rfl, _, _, hnc, _⟩
 · simp [Builtin.append_, run_underlying ht, sizeOf, typeInfo, hi, Builtin.lenOf, Builtin.firstCells]
 · simp [Builtin.append_, run_underlying ht, sizeOf, typeInfo, hi, Builtin.lenOf, Builtin.firstCells, hnc, storeCells]

theorem run_append_rd (base : Nat) (t ty e : TypeId) (size bytes : Nat) (hE : ElemOf P t e size bytes)
 (v : Value) (n : Nat) (xs : List Value) (hown : w.ownsRow base e size v n xs)
 (B : Nat) (x : Value) (m : Nat) (news : List Value) (hr : Rd w B size x m news) (h1 : ∀ u ∈ news, u.oneCell' = true)
 (hbytes : (n + m) * bytes ≤ 140737488355328) (hbase : base ≤ w.heap.size) :
 ∃ v' w', (Builtin.append_ #[t, t] ty #[v, x]).run P w = .ok v' w' ∧ w'.ownsRow base e size v' (n + m) (xs ++ news) ∧ w.grownBy w' v.ownBlock ∧
  (v'.ownBlock = v.ownBlock ∨ v'.ownBlock = some w.heap.size) := by
 obtain ⟨i, z, ht, hi, hz, hsize, hby, hzs, hsz, hb0⟩ := hE
 obtain ⟨A, c, rfl, hnc, hcm, hl, hc⟩ := hr
 have h63 : n + m ≤ maxLen := by
  have : (n + m) * 1 ≤ (n + m) * bytes := Nat.mul_le_mul_left _ hb0
  rw [maxLen_eq]; omega
 rcases A with _ | ad
 · have hm : m = 0 := by
    rcases Nat.eq_zero_or_pos m with h0 | h0
    · exact h0
    · obtain ⟨b, o, h, _⟩ := hc h0
      cases h
   subst hm
   have hn : news = [] := List.eq_nil_of_length_eq_zero (by simpa using hl)
   subst hn
   exact ⟨v, w, run_append_of_nil w base t ty e i size ht hi v n xs hown c, by simpa using hown, World.grownBy.refl w _, .inl rfl⟩
 · have hcells : ∀ j u, news[j]? = some u → w.cell? (ad.add j) = some u := by
    intro j u hu
    rcases Nat.eq_zero_or_pos m with h0 | h0
    · subst h0
      have hn : news = [] := List.eq_nil_of_length_eq_zero (by simpa using hl)
      subst hn
      simp at hu
    · obtain ⟨b, o, h, _, hc'⟩ := hc h0
      injection h with h
      subst h
      have := hc' j u hu
      unfold Addr.add
      split
      · rename_i hj; subst hj; simpa using this
      · exact this
   obtain ⟨v', w', hrun, h2, h3, _, h5⟩ := run_append_own_at (P := P) w base t ty e i z size bytes ht hi hz hsize hby hzs hsz v n xs hown ad m c news hl hcells h1 h63 hbytes hbase
   exact ⟨v', w', hrun, h2, h3, h5⟩

theorem wp_append_rd {o : Oper} {a : Act} {K : Act → World → Prop} {Q : Exit → Act → World → Prop} (s x : Operand) (t : TypeId)
 (ho : o.op = .call { callee := .builtin .append, args := #[s, x], argTypes := #[t, t] })
 (base : Nat) (e : TypeId) (size bytes : Nat) (hE : ElemOf P t e size bytes)
 (v : Value) (n : Nat) (xs : List Value) (hs : a.eval s = v) (hown : w.ownsRow base e size v n xs)
 (B : Nat) (vx : Value) (m : Nat) (news : List Value) (hx : a.eval x = vx) (hr : Rd w B size vx m news) (h1 : ∀ u ∈ news, u.oneCell' = true)
 (hbytes : (n + m) * bytes ≤ 140737488355328) (hbase : base ≤ w.heap.size)
 (h : ∀ v' w', w'.ownsRow base e size v' (n + m) (xs ++ news) → w.grownBy w' v.ownBlock → (v'.ownBlock = v.ownBlock ∨ v'.ownBlock = some w.heap.size) → K (a.put o.dst v') w') : o.wp P a w K Q := by
 obtain ⟨v', w', hrun, h2, h3, h4⟩ := run_append_rd (P := P) w base t o.type e size bytes hE v n xs hown B vx m news hr h1 hbytes hbase
 unfold Oper.wp execOp
 simp only [ho, resolve, invoke, builtin, Sem.run_bind, Sem.run_pure, Result.andThen_ok, List.map_toArray, List.map_cons, List.map_nil, hs, hx, hrun]
 exact h v' w' h2 h3 h4

/-- 's = append(s, x...)': s is a row of the call's own (or nil), x reads as a list. -/
theorem wpList_append_rd {ops : Array Oper} {rest : List Oper} {o : Oper} {a : Act} {Q : Exit → Act → World → Prop} (hgd : o.guard = none) (s x : Operand) (t : TypeId)
 (ho : o.op = .call { callee := .builtin .append, args := #[s, x], argTypes := #[t, t] })
 (base : Nat) (e : TypeId) (size bytes : Nat) (hE : ElemOf P t e size bytes)
 (v : Value) (n : Nat) (xs : List Value) (hs : a.eval s = v) (hown : w.ownsRow base e size v n xs)
 (B : Nat) (vx : Value) (m : Nat) (news : List Value) (hx : a.eval x = vx) (hr : Rd w B size vx m news) (h1 : ∀ u ∈ news, u.oneCell' = true)
 (hbytes : (n + m) * bytes ≤ 140737488355328) (hbase : base ≤ w.heap.size)
 (h : ∀ v' w', w'.ownsRow base e size v' (n + m) (xs ++ news) → w.grownBy w' v.ownBlock → (v'.ownBlock = v.ownBlock ∨ v'.ownBlock = some w.heap.size) → wpList P ops Q rest (a.put o.dst v') w') : wpList P ops Q (o :: rest) a w :=
 wpList_plain hgd fun _ hK => wp_append_rd w s x t ho base e size bytes hE v n xs hs hown B vx m news hx hr h1 hbytes hbase fun v' w' h2 h3 h4 => hK _ _ (h v' w' h2 h3 h4)
end

/-- The one-cell block that 'append(s, x)' lays for x reads as the list of x alone. -/
theorem Rd.one (w : World) (e : TypeId) (u : Value) : Rd (w.alloc (.cells #[u] e)) (w.heap.size + 1) 1 (.slice (some ⟨w.heap.size, 0, none⟩) 1 1) 1 [u] := by
 refine ⟨_, 1, rfl, Nat.le_refl _, by decide, rfl, fun _ => ⟨w.heap.size, 0, rfl, by omega, fun j x hx => ?_⟩⟩
 have hj : j < 1 := by
  rcases Nat.lt_or_ge j 1 with h | h
  · exact h
  · rw [List.getElem?_eq_none (by simpa using h)] at hx; cases hx
 have : j = 0 := by omega
 subst this
 simp at hx
 subst hx
 unfold World.cell?
 rw [show (w.alloc (.cells #[u] e)).heap[w.heap.size]? = some (.cells #[u] e) from heap_alloc_new w _]
 simp

section
variable {w w' : World} {base base' size size' n n' : Nat} {e e' : TypeId} {v v' : Value} {xs xs' : List Value}
theorem own_keptB (h : w.ownsRow base e size v n xs) (hb : Below w.heap.size w w') : w'.ownsRow base e size v n xs :=
 h.kept (row := none) ⟨hb.os, hb.tape, hb.output, hb.size, fun k hk _ => hb.block k hk⟩ (by
  rcases h.2 with ⟨rfl, _⟩ | ⟨g, cap, cur, rfl, _⟩
  · exact .inl rfl
  · exact .inr (by simp [Value.ownBlock]))
theorem own_more (h : w.ownsRow base e size v n xs) (hb : base' ≤ base) : w.ownsRow base' e size v n xs := by
 obtain ⟨hl, h⟩ := h
 refine ⟨hl, ?_⟩
 rcases h with h | ⟨g, cap, cur, h1, h2, h3⟩
 · exact .inl h
 · exact .inr ⟨g, cap, cur, h1, by omega, h3⟩
theorem own_shape (h : w.ownsRow base e size v n xs) : ∃ A c, v = .slice A n c := by
 rcases h.2 with ⟨rfl, rfl⟩ | ⟨g, cap, cur, rfl, _⟩
 · exact ⟨none, 0, rfl⟩
 · exact ⟨_, cap, rfl⟩
theorem own_one (h : w.ownsRow base e size v n xs) : ∀ u ∈ [v], u.oneCell' = true := by
 intro u hu
 obtain rfl := List.mem_singleton.1 hu
 rcases h.2 with ⟨rfl, _⟩ | ⟨g, cap, cur, rfl, _⟩ <;> rfl
theorem own_base (h : w.ownsRow base e size v n xs) : ∀ k, v.ownBlock = some k → base ≤ k := fun k hk => (h.lt k hk).1
end

/-- A row of the call's own whose cells are rows of the call's own: the outer one of element type eo, the inner ones ints of element type ei. -/
def Own2 (w : World) (base : Nat) (eo ei : TypeId) (v : Value) (rows : List (List Int)) : Prop :=
 ∃ vs : List Value, w.ownsRow base eo 1 v rows.length vs ∧ ∀ i (hi : i < rows.length), ∃ u, vs[i]? = some u ∧ w.ownsRow base ei 1 u rows[i].length (rows[i].map (.int .i64))

section
variable {w w' : World} {base : Nat} {eo ei : TypeId} {v v' : Value} {rows : List (List Int)}
theorem Own2.nil_ (w : World) (base : Nat) (eo ei : TypeId) : Own2 w base eo ei (.slice none 0 0) [] := ⟨[], World.ownsRow_nil _ _ _ _, fun i hi => absurd hi (by simp)⟩
theorem Own2.keptB (h : Own2 w base eo ei v rows) (hb : Below w.heap.size w w') : Own2 w' base eo ei v rows := by
 obtain ⟨vs, h1, h2⟩ := h
 refine ⟨vs, own_keptB h1 hb, fun i hi => ?_⟩
 obtain ⟨u, hu, hx⟩ := h2 i hi
 exact ⟨u, hu, own_keptB hx hb⟩
theorem Own2.reads (h : Own2 w base eo ei v rows) : Rows2 w w.heap.size v rows := by
 obtain ⟨vs, h1, h2⟩ := h
 refine ⟨vs, Rd.of_own h1, by have := h1.1; omega, fun i hi => ?_⟩
 obtain ⟨u, hu, hx⟩ := h2 i hi
 exact ⟨u, hu, Ints.of_own hx⟩
theorem Own2.more (h : Own2 w base eo ei v rows) {base' : Nat} (hb : base' ≤ base) : Own2 w base' eo ei v rows := by
 obtain ⟨vs, h1, h2⟩ := h
 refine ⟨vs, own_more h1 hb, fun i hi => ?_⟩
 obtain ⟨u, hu, hx⟩ := h2 i hi
 exact ⟨u, hu, own_more hx hb⟩
end

/-- Block g is just the cells cs of element type t, none frozen. -/
def Blk (w : World) (g : Nat) (t : TypeId) (cs : List Value) : Prop := w.heap[g]? = some (.cells cs.toArray t (0, 0))

section
variable {w w' : World} {g : Nat} {t : TypeId} {cs : List Value}
theorem Blk.lt (h : Blk w g t cs) : g < w.heap.size := by
 rcases Nat.lt_or_ge g w.heap.size with hlt | hge
 · exact hlt
 · unfold Blk at h; rw [Array.getElem?_eq_none hge] at h; cases h
theorem Blk.cell (h : Blk w g t cs) (i : Nat) : w.cell? ⟨g, i, none⟩ = cs[i]? := by
 unfold Blk at h
 simp [World.cell?, h]
theorem Blk.frozen (h : Blk w g t cs) (i : Nat) : w.frozen? ⟨g, i, none⟩ = false := by
 unfold Blk at h
 simp [World.frozen?, h]
theorem Blk.new (w : World) (t : TypeId) (cs : List Value) : Blk (w.alloc (.cells cs.toArray t)) w.heap.size t cs := heap_alloc_new w _
theorem Blk.drew (h : Blk w g t cs) : Blk w.drew g t cs := h
theorem Blk.alloc (h : Blk w g t cs) (o : Obj) : Blk (w.alloc o) g t cs := (Below.heap_alloc w o g h.lt).trans h
theorem Blk.set_ (h : Blk w g t cs) (i : Nat) (u : Value) : Blk (w.setCell ⟨g, i, none⟩ u) g t (cs.set i u) := by
 unfold Blk at h ⊢
 simp [World.setCell, Array.getElem?_modify, h]
theorem Blk.far (h : Blk w g t cs) {p : Addr} (hp : g ≠ p.block) (u : Value) : Blk (w.setCell p u) g t cs := (Below.heap_setCell w p u g hp).trans h
theorem Blk.below {B : Nat} (h : Blk w g t cs) (hb : Below B w w') (hg : g < B) : Blk w' g t cs := (hb.block g hg).trans h
theorem Blk.grown {row : Option Nat} (h : Blk w g t cs) (hb : w.grownBy w' row) (hg : some g ≠ row) : Blk w' g t cs := (hb.block g h.lt hg).trans h
theorem own_ne_blk {base size n : Nat} {e : TypeId} {v : Value} {xs : List Value} (h : w.ownsRow base e size v n xs) (hg : Blk w g t cs) (hne : e ≠ t) : some g ≠ v.ownBlock := by
 rcases h.2 with ⟨rfl, _⟩ | ⟨g', cap, cur, rfl, _, hh, _⟩
 · simp [Value.ownBlock]
 · intro he
   have : g = g' := by simpa [Value.ownBlock] using he
   subst this
   unfold Blk at hg
   rw [hg] at hh
   injection hh with h1
   injection h1 with _ h2
   exact hne h2.symm
end

theorem Rd.of_blk {w : World} {g B : Nat} {t : TypeId} {cs : List Value} (h : Blk w g t cs) (hg : g < B) (size n c : Nat) (hn : cs.length = n * size) (hc : n ≤ c) (hm : c ≤ maxLen) : Rd w B size (.slice (some ⟨g, 0, none⟩) n c) n cs :=
 ⟨_, c, rfl, hc, hm, hn, fun _ => ⟨g, 0, rfl, hg, fun j u hu => by rw [Nat.zero_add, h.cell]; exact hu⟩⟩
theorem Ints.of_blk {w : World} {g B : Nat} {t : TypeId} {xs : List Int} (h : Blk w g t (xs.map (.int .i64))) (hg : g < B) (c : Nat) (hc : xs.length ≤ c) (hm : c ≤ maxLen) : Ints w B (.slice (some ⟨g, 0, none⟩) xs.length c) xs :=
 Rd.of_blk h hg 1 _ c (by simp) hc hm
end Go.Proofs.YthdjgebbjogmiaaDoor
