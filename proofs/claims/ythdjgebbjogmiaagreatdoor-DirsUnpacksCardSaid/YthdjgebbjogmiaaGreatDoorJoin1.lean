/- Words for memory that all the walks of this seat use: a slice that reads as a list, how that lasts, and the append onto a row of the call's own. No condition.
The order of names: byte by byte. No program in sight.
Arrays of bytes in blocks: read whole, written whole, cell by cell. No condition.
A new array in a block of its own, the world behind it a letter. No condition.
Helps for regions that draw their order.
Slices of bytes: make, reading, rows of the call's own. No condition. -/
import Derived.WalkKit
import Derived.WalkSpells
import Derived.WalkLawsBesides
import Derived.Maps.AppendAt
import Derived.Handy
import Derived.Test.YthdjgebbjogmiaaGreatDoorRows
import Derived.Laws.Rows
import Derived.Deep.MidRow
import Derived.Laws.MakeOwn
set_option linter.unusedVariables false
set_option linter.unusedSimpArgs false
namespace Go.Proofs.YthdjgebbjogmiaaGreatDoor
open Go Go.RowKit
theorem s1_ {α : Type} {xs : List α} {i : Nat} {a : α} : xs.toArray.setIfInBounds i a = (xs.set i a).toArray := List.setIfInBounds_toArray ..
theorem s2_ {α : Type} {x : α} {xs : List α} {a : α} : (x :: xs).set 0 a = a :: xs := List.set_cons_zero
theorem s3_ {α : Type} {x : α} {xs : List α} {i : Nat} {a : α} : (x :: xs).set (i + 1) a = x :: xs.set i a := List.set_cons_succ
theorem s_ : (∀ (a : Act) (n : Nat) (v : Value), a.put (some n) v = { a with tmps := a.tmps.setIfInBounds n v }) ∧ (∀ (a : Act) (v : Value), a.put none v = a) ∧ (∀ (xs : List Value) (i : Nat) (a : Value), xs.toArray.setIfInBounds i a = (xs.set i a).toArray) ∧ (∀ (x : Value) (xs : List Value) (a : Value), (x :: xs).set 0 a = a :: xs) ∧ (∀ (x : Value) (xs : List Value) (i : Nat) (a : Value), (x :: xs).set (i + 1) a = x :: xs.set i a) := ⟨fun _ _ _ => rfl, fun _ _ => rfl, fun _ _ _ => s1_, fun _ _ _ => s2_, fun _ _ _ _ => s3_⟩
set_option maxRecDepth 100000

theorem hide {p : Prop} (h : p) : Hid p := h

theorem maxLen_eq : maxLen = 9223372036854775807 := rfl

/-- The slice value v has n elements of 'size' cells each, just the cells xs, all below block B. -/
def Rd (w : World) (B size : Nat) (v : Value) (n : Nat) (xs : List Value) : Prop :=
 ∃ (A : Option Addr) (c : Nat), v = .slice A n c ∧ n ≤ c ∧ c ≤ maxLen ∧ xs.length = n * size ∧
  (0 < n → ∃ b o, A = some ⟨b, o, none⟩ ∧ b < B ∧ ∀ j u, xs[j]? = some u → w.cell? ⟨b, o + j, none⟩ = some u)

section
variable {w w' : World} {B B' size n : Nat} {v : Value} {xs : List Value}
theorem Rd.keep (h : Rd w B size v n xs) (hk : ∀ p : Addr, p.block < B → w'.cell? p = w.cell? p) : Rd w' B size v n xs := by
 obtain ⟨A, c, rfl, h1, h2, h4, h3⟩ := h;refine ⟨A, c, rfl, h1, h2, h4, fun hp => ?_⟩;obtain ⟨b, o, rfl, hb, hc⟩ := h3 hp;exact ⟨b, o, rfl, hb, fun j u hu => (hk _ hb).trans (hc j u hu)⟩
theorem Rd.more (h : Rd w B size v n xs) (hB : B ≤ B') : Rd w B' size v n xs := by
 obtain ⟨A, c, rfl, h1, h2, h4, h3⟩ := h;refine ⟨A, c, rfl, h1, h2, h4, fun hp => ?_⟩;obtain ⟨b, o, rfl, hb, hc⟩ := h3 hp;exact ⟨b, o, rfl, by omega, hc⟩
theorem Rd.below (h : Rd w B size v n xs) (hb : Below B w w') : Rd w' B size v n xs := h.keep fun _ hp => hb.cell hp
theorem Rd.belowM (h : Rd w B size v n xs) (hb : Below B' w w') (hB : B ≤ B') : Rd w' B size v n xs := h.below (hb.mono hB)
theorem Rd.nil_ (w : World) (B size : Nat) : Rd w B size (.slice none 0 0) 0 [] := ⟨none, 0, rfl, Nat.le_refl _, by decide, by simp, fun h => absurd h (by omega)⟩
theorem Rd.len (h : Rd w B size v n xs) : xs.length = n * size := by obtain ⟨_, _, _, _, _, h4, _⟩ := h; exact h4
/-- An owned row reads as its cells. -/
theorem Rd.of_own {base : Nat} {e : TypeId} (h : w.ownsRow base e size v n xs) : Rd w w.heap.size size v n xs := by
 obtain ⟨hl, h⟩ := h
 rcases h with ⟨rfl, rfl⟩ | ⟨g, cap, cur, rfl, hb, hg, h1, h2, h3, h4⟩
 · exact ⟨none, 0, rfl, Nat.le_refl _, by decide, hl, fun h => absurd h (by omega)⟩
 · have hlt : g < w.heap.size := by
    rcases Nat.lt_or_ge g w.heap.size with h | h
    · exact h
    · rw [Array.getElem?_eq_none h] at hg; cases hg
   refine ⟨_, cap, rfl, h1, h2, hl, fun _ => ⟨g, 0, rfl, hlt, fun j u hu => ?_⟩⟩;rw [← h4, List.getElem?_take] at hu
   split at hu
   · simp [World.cell?, hg]; simpa using hu
   · cases hu
end

/-- A slice of ints. -/
def Ints (w : World) (B : Nat) (v : Value) (xs : List Int) : Prop := Rd w B 1 v xs.length (xs.map (.int .i64))

section
variable {w w' : World} {B B' : Nat} {v : Value} {xs : List Int}
theorem Ints.open_ (h : Ints w B v xs) :
 ∃ (A : Option Addr) (c : Nat), v = .slice A xs.length c ∧ xs.length ≤ c ∧ c ≤ maxLen ∧
 (0 < xs.length → ∃ b o, A = some ⟨b, o, none⟩ ∧ b < B ∧ ∀ j (hj : j < xs.length), w.cell? ⟨b, o + j, none⟩ = some (.int .i64 xs[j])) := by
 obtain ⟨A, c, rfl, h1, h2, _, h3⟩ := h;refine ⟨A, c, rfl, h1, h2, fun hp => ?_⟩;obtain ⟨b, o, rfl, hb, hc⟩ := h3 hp;exact ⟨b, o, rfl, hb, fun j hj => hc j _ (by simp [hj])⟩
theorem Ints.below (h : Ints w B v xs) (hb : Below B' w w') (hB : B ≤ B') : Ints w' B v xs := Rd.belowM h hb hB
theorem Ints.more (h : Ints w B v xs) (hB : B ≤ B') : Ints w B' v xs := Rd.more h hB
theorem Ints.nil_ (w : World) (B : Nat) : Ints w B (.slice none 0 0) [] := Rd.nil_ w B 1
theorem Ints.of_own {base : Nat} {e : TypeId} {n : Nat} (h : w.ownsRow base e 1 v n (xs.map (.int .i64))) : Ints w w.heap.size v xs := by
 have e : n = xs.length := by have := h.1; simp at this; omega
 subst e;exact Rd.of_own h
end

/-- A slice of slices of ints. -/
def Rows2 (w : World) (B : Nat) (v : Value) (rows : List (List Int)) : Prop :=
 ∃ vs : List Value, Rd w B 1 v rows.length vs ∧ vs.length = rows.length ∧ ∀ i (hi : i < rows.length), ∃ u, vs[i]? = some u ∧ Ints w B u rows[i]

section
variable {w w' : World} {B B' : Nat} {v : Value} {rows : List (List Int)}
theorem Rows2.open_ (h : Rows2 w B v rows) :
 ∃ (A : Option Addr) (c : Nat), v = .slice A rows.length c ∧ rows.length ≤ c ∧ c ≤ maxLen ∧
 (0 < rows.length → ∃ b o, A = some ⟨b, o, none⟩ ∧ b < B ∧ ∀ j (hj : j < rows.length), ∃ u, w.cell? ⟨b, o + j, none⟩ = some u ∧ Ints w B u rows[j]) := by
 obtain ⟨vs, ⟨A, c, rfl, h1, h2, h4, h3⟩, hl, hr⟩ := h;refine ⟨A, c, rfl, h1, h2, fun hp => ?_⟩;obtain ⟨b, o, rfl, hb, hc⟩ := h3 hp;refine ⟨b, o, rfl, hb, fun j hj => ?_⟩;obtain ⟨u, hu, hi⟩ := hr j hj;exact ⟨u, hc j u hu, hi⟩
theorem Rows2.below (h : Rows2 w B v rows) (hb : Below B' w w') (hB : B ≤ B') : Rows2 w' B v rows := by
 obtain ⟨vs, hv, hl, hr⟩ := h;refine ⟨vs, hv.belowM hb hB, hl, fun i hi => ?_⟩;obtain ⟨u, hu, hx⟩ := hr i hi;exact ⟨u, hu, hx.below hb hB⟩
theorem Rows2.more (h : Rows2 w B v rows) (hB : B ≤ B') : Rows2 w B' v rows := by
 obtain ⟨vs, hv, hl, hr⟩ := h;refine ⟨vs, hv.more hB, hl, fun i hi => ?_⟩;obtain ⟨u, hu, hx⟩ := hr i hi;exact ⟨u, hu, hx.more hB⟩
end

/-- What the table says of a slice type and its element: t is a slice of e; e takes 'size' cells, 'bytes' bytes. -/
def ElemOf (P : Program) (t e : TypeId) (size bytes : Nat) : Prop :=
 ∃ i z, P.underlying t = some (.slice e) ∧ P.info? e = some i ∧ i.zero = some z ∧ i.size = size ∧ i.bytes = bytes ∧ z.cells.size = size ∧ 0 < size ∧ 0 < bytes

theorem elem_of {P : Program} {t e : TypeId} {z : Value} {size bytes : Nat} (ht : P.underlying t = some (.slice e)) (h : (P.info? e).map (fun i => (i.zero, i.size, i.bytes)) = some (some z, size, bytes))
 (hz : z.cells.size = size) (h1 : 0 < size) (h2 : 0 < bytes) : ElemOf P t e size bytes := by
 obtain ⟨i, hi, hz0, hz1, hz2⟩ := info_parts h;exact ⟨i, z, ht, hi, hz0, hz1, hz2, hz, h1, h2⟩

section
variable {P : Program} (w : World)
theorem run_append_of_nil (base : Nat) (t ty e : TypeId) (i : TypeInfo) (size : Nat) (ht : P.underlying t = some (.slice e)) (hi : P.info? e = some i)
 (v : Value) (n : Nat) (xs : List Value) (hown : w.ownsRow base e size v n xs) (c : Nat) : (Builtin.append_ #[t, t] ty #[v, .slice none 0 c]).run P w = .ok v w := by
 rcases hown.2 with ⟨rfl, rfl⟩ | ⟨g, cap, cur, rfl, _, _, hnc, _⟩
 · simp [Builtin.append_, run_underlying ht, sizeOf, typeInfo, hi, Builtin.lenOf, Builtin.firstCells]
 · simp [Builtin.append_, run_underlying ht, sizeOf, typeInfo, hi, Builtin.lenOf, Builtin.firstCells, hnc, storeCells]

theorem run_append_rd (base : Nat) (t ty e : TypeId) (size bytes : Nat) (hE : ElemOf P t e size bytes)
 (v : Value) (n : Nat) (xs : List Value) (hown : w.ownsRow base e size v n xs)
 (B : Nat) (x : Value) (m : Nat) (news : List Value) (hr : Rd w B size x m news) (h1 : ∀ u ∈ news, u.oneCell' = true)
 (hbytes : (n + m) * bytes ≤ 140737488355328) (hbase : base ≤ w.heap.size) :
 ∃ v' w', (Builtin.append_ #[t, t] ty #[v, x]).run P w = .ok v' w' ∧ w'.ownsRow base e size v' (n + m) (xs ++ news) ∧ w.grownBy w' v.ownBlock ∧
  (v'.ownBlock = v.ownBlock ∨ v'.ownBlock = some w.heap.size) := by
 obtain ⟨i, z, ht, hi, hz, hsize, hby, hzs, hsz, hb0⟩ := hE;obtain ⟨A, c, rfl, hnc, hcm, hl, hc⟩ := hr
 have h63 : n + m ≤ maxLen := by
  have : (n + m) * 1 ≤ (n + m) * bytes := Nat.mul_le_mul_left _ hb0;rw [maxLen_eq]; omega
 rcases A with _ | ad
 · have hm : m = 0 := by
    rcases Nat.eq_zero_or_pos m with h0 | h0
    · exact h0
    · obtain ⟨b, o, h, _⟩ := hc h0
      cases h
   subst hm;have hn : news = [] := List.eq_nil_of_length_eq_zero (by simpa using hl);subst hn;exact ⟨v, w, run_append_of_nil w base t ty e i size ht hi v n xs hown c, by simpa using hown, World.grownBy.refl w _, .inl rfl⟩
 · have hcells : ∀ j u, news[j]? = some u → w.cell? (ad.add j) = some u := by
    intro j u hu
    rcases Nat.eq_zero_or_pos m with h0 | h0
    · subst h0
      have hn : news = [] := List.eq_nil_of_length_eq_zero (by simpa using hl);subst hn
      simp at hu
    · obtain ⟨b, o, h, _, hc'⟩ := hc h0
      injection h with h
      subst h;have := hc' j u hu;unfold Addr.add
      split
      · rename_i hj; subst hj; simpa using this
      · exact this
   obtain ⟨v', w', hrun, h2, h3, _, h5⟩ := run_append_own_at (P := P) w base t ty e i z size bytes ht hi hz hsize hby hzs hsz v n xs hown ad m c news hl hcells h1 h63 hbytes hbase;exact ⟨v', w', hrun, h2, h3, h5⟩

theorem wp_append_rd {o : Oper} {a : Act} {K : Act → World → Prop} {Q : Exit → Act → World → Prop} (s x : Operand) (t : TypeId)
 (ho : o.op = .call { callee := .builtin .append, args := #[s, x], argTypes := #[t, t] })
 (base : Nat) (e : TypeId) (size bytes : Nat) (hE : ElemOf P t e size bytes)
 (v : Value) (n : Nat) (xs : List Value) (hs : a.eval s = v) (hown : w.ownsRow base e size v n xs)
 (B : Nat) (vx : Value) (m : Nat) (news : List Value) (hx : a.eval x = vx) (hr : Rd w B size vx m news) (h1 : ∀ u ∈ news, u.oneCell' = true)
 (hbytes : (n + m) * bytes ≤ 140737488355328) (hbase : base ≤ w.heap.size)
 (h : ∀ v' w', w'.ownsRow base e size v' (n + m) (xs ++ news) → w.grownBy w' v.ownBlock → (v'.ownBlock = v.ownBlock ∨ v'.ownBlock = some w.heap.size) → K (a.put o.dst v') w') : o.wp P a w K Q := by
 obtain ⟨v', w', hrun, h2, h3, h4⟩ := run_append_rd (P := P) w base t o.type e size bytes hE v n xs hown B vx m news hr h1 hbytes hbase;unfold Oper.wp execOp;simp only [ho, resolve, invoke, builtin, Sem.run_bind, Sem.run_pure, Result.andThen_ok, List.map_toArray, List.map_cons, List.map_nil, hs, hx, hrun];exact h v' w' h2 h3 h4

/-- 's = append(s, x...)': s is a row of the call's own (or nil), x reads as a list. -/
theorem wpList_append_rd {ops : Array Oper} {rest : List Oper} {o : Oper} {a : Act} {Q : Exit → Act → World → Prop} (hgd : o.guard = none) (s x : Operand) (t : TypeId)
 (ho : o.op = .call { callee := .builtin .append, args := #[s, x], argTypes := #[t, t] })
 (base : Nat) (e : TypeId) (size bytes : Nat) (hE : ElemOf P t e size bytes)
 (v : Value) (n : Nat) (xs : List Value) (hs : a.eval s = v) (hown : w.ownsRow base e size v n xs)
 (B : Nat) (vx : Value) (m : Nat) (news : List Value) (hx : a.eval x = vx) (hr : Rd w B size vx m news) (h1 : ∀ u ∈ news, u.oneCell' = true)
 (hbytes : (n + m) * bytes ≤ 140737488355328) (hbase : base ≤ w.heap.size)
 (h : ∀ v' w', w'.ownsRow base e size v' (n + m) (xs ++ news) → w.grownBy w' v.ownBlock → (v'.ownBlock = v.ownBlock ∨ v'.ownBlock = some w.heap.size) → wpList P ops Q rest (a.put o.dst v') w') : wpList P ops Q (o :: rest) a w :=
 wpList_plain hgd fun _ hK => wp_append_rd w s x t ho base e size bytes hE v n xs hs hown B vx m news hx hr h1 hbytes hbase fun v' w' h2 h3 h4 => hK _ _ (h v' w' h2 h3 h4)
end

/-- The one-cell block that 'append(s, x)' lays for x reads as the list of x alone. -/
theorem Rd.one (w : World) (e : TypeId) (u : Value) : Rd (w.alloc (.cells #[u] e)) (w.heap.size + 1) 1 (.slice (some ⟨w.heap.size, 0, none⟩) 1 1) 1 [u] := by
 refine ⟨_, 1, rfl, Nat.le_refl _, by decide, rfl, fun _ => ⟨w.heap.size, 0, rfl, by omega, fun j x hx => ?_⟩⟩
 have hj : j < 1 := by
  rcases Nat.lt_or_ge j 1 with h | h
  · exact h
  · rw [List.getElem?_eq_none (by simpa using h)] at hx; cases hx
 have : j = 0 := by omega
 subst this
 simp at hx
 subst hx;unfold World.cell?;rw [show (w.alloc (.cells #[u] e)).heap[w.heap.size]? = some (.cells #[u] e) from heap_alloc_new w _]
 simp

section
variable {w w' : World} {base base' size size' n n' : Nat} {e e' : TypeId} {v v' : Value} {xs xs' : List Value}
/-- Two owned rows of unlike element types lie in unlike blocks. -/
theorem own_ne (h : w.ownsRow base e size v n xs) (h' : w.ownsRow base' e' size' v' n' xs') (hne : e ≠ e') : v.ownBlock = none ∨ v.ownBlock ≠ v'.ownBlock := by
 rcases h.2 with ⟨rfl, _⟩ | ⟨g, cap, cur, rfl, _, hg, _⟩
 · exact .inl rfl
 · right
   rcases h'.2 with ⟨rfl, _⟩ | ⟨g', cap', cur', rfl, _, hg', _⟩
   · simp [Value.ownBlock]
   · intro he
     have : g = g' := by simpa [Value.ownBlock] using he
     subst this
     rw [hg] at hg'
     injection hg' with h1
     injection h1 with _ h2
     exact hne h2
theorem own_keptB (h : w.ownsRow base e size v n xs) (hb : Below w.heap.size w w') : w'.ownsRow base e size v n xs :=
 h.kept (row := none) ⟨hb.os, hb.tape, hb.output, hb.size, fun k hk _ => hb.block k hk⟩ (by
  rcases h.2 with ⟨rfl, _⟩ | ⟨g, cap, cur, rfl, _⟩
  · exact .inl rfl
  · exact .inr (by simp [Value.ownBlock]))
theorem own_more (h : w.ownsRow base e size v n xs) (hb : base' ≤ base) : w.ownsRow base' e size v n xs := by
 obtain ⟨hl, h⟩ := h;refine ⟨hl, ?_⟩
 rcases h with h | ⟨g, cap, cur, h1, h2, h3⟩
 · exact .inl h
 · exact .inr ⟨g, cap, cur, h1, by omega, h3⟩
theorem own_shape (h : w.ownsRow base e size v n xs) : ∃ A c, v = .slice A n c := by
 rcases h.2 with ⟨rfl, rfl⟩ | ⟨g, cap, cur, rfl, _⟩
 · exact ⟨none, 0, rfl⟩
 · exact ⟨_, cap, rfl⟩
theorem own_one (h : w.ownsRow base e size v n xs) : ∀ u ∈ [v], u.oneCell' = true := by
 intro u hu;obtain rfl := List.mem_singleton.1 hu
 rcases h.2 with ⟨rfl, _⟩ | ⟨g, cap, cur, rfl, _⟩ <;> rfl
theorem own_base (h : w.ownsRow base e size v n xs) : ∀ k, v.ownBlock = some k → base ≤ k := fun k hk => (h.lt k hk).1
end

/-- A row of the call's own whose cells are rows of the call's own: the outer one of element type eo, the inner ones ints of element type ei. -/
def Own2 (w : World) (base : Nat) (eo ei : TypeId) (v : Value) (rows : List (List Int)) : Prop :=
 ∃ vs : List Value, w.ownsRow base eo 1 v rows.length vs ∧ ∀ i (hi : i < rows.length), ∃ u, vs[i]? = some u ∧ w.ownsRow base ei 1 u rows[i].length (rows[i].map (.int .i64))

section
variable {w w' : World} {base : Nat} {eo ei : TypeId} {v v' : Value} {rows : List (List Int)}
theorem Own2.nil_ (w : World) (base : Nat) (eo ei : TypeId) : Own2 w base eo ei (.slice none 0 0) [] := ⟨[], World.ownsRow_nil _ _ _ _, fun i hi => absurd hi (by simp)⟩
theorem Own2.keptB (h : Own2 w base eo ei v rows) (hb : Below w.heap.size w w') : Own2 w' base eo ei v rows := by
 obtain ⟨vs, h1, h2⟩ := h;refine ⟨vs, own_keptB h1 hb, fun i hi => ?_⟩;obtain ⟨u, hu, hx⟩ := h2 i hi;exact ⟨u, hu, own_keptB hx hb⟩
theorem Own2.push {vs : List Value} (h : w.ownsRow base eo 1 v rows.length vs) (h2 : ∀ i (hi : i < rows.length), ∃ u, vs[i]? = some u ∧ w.ownsRow base ei 1 u rows[i].length (rows[i].map (.int .i64)))
 (hne : ei ≠ eo) {u : Value} {r : List Int} (hu : w.ownsRow base ei 1 u r.length (r.map (.int .i64)))
 (h' : w'.ownsRow base eo 1 v' (rows.length + 1) (vs ++ [u])) (hg : w.grownBy w' v.ownBlock) : Own2 w' base eo ei v' (rows ++ [r]) := by
 have hl : vs.length = rows.length := by have := h.1; omega
 refine ⟨vs ++ [u], by simpa using h', fun i hi => ?_⟩
 rcases Nat.lt_or_ge i rows.length with h3 | h3
 · obtain ⟨u', hu', hx⟩ := h2 i h3
   refine ⟨u', by rw [List.getElem?_append_left (by omega)]; exact hu', ?_⟩;rw [List.getElem_append_left h3];exact hx.kept hg (own_ne hx h hne)
 · have : i = rows.length := by simp at hi; omega
   subst this
   refine ⟨u, by rw [← hl]; simp, ?_⟩
   simpa using hu.kept hg (own_ne hu h hne)
theorem Own2.reads (h : Own2 w base eo ei v rows) : Rows2 w w.heap.size v rows := by
 obtain ⟨vs, h1, h2⟩ := h;refine ⟨vs, Rd.of_own h1, by have := h1.1; omega, fun i hi => ?_⟩;obtain ⟨u, hu, hx⟩ := h2 i hi;exact ⟨u, hu, Ints.of_own hx⟩
theorem Own2.more (h : Own2 w base eo ei v rows) {base' : Nat} (hb : base' ≤ base) : Own2 w base' eo ei v rows := by
 obtain ⟨vs, h1, h2⟩ := h;refine ⟨vs, own_more h1 hb, fun i hi => ?_⟩;obtain ⟨u, hu, hx⟩ := h2 i hi;exact ⟨u, hu, own_more hx hb⟩
end

/-- Block g is just the cells cs of element type t, none frozen. -/
def Blk (w : World) (g : Nat) (t : TypeId) (cs : List Value) : Prop := w.heap[g]? = some (.cells cs.toArray t (0, 0))

section
variable {w w' : World} {g : Nat} {t : TypeId} {cs : List Value}
theorem Blk.lt (h : Blk w g t cs) : g < w.heap.size := by
 rcases Nat.lt_or_ge g w.heap.size with hlt | hge
 · exact hlt
 · unfold Blk at h; rw [Array.getElem?_eq_none hge] at h; cases h
theorem Blk.cell (h : Blk w g t cs) (i : Nat) : w.cell? ⟨g, i, none⟩ = cs[i]? := by
 unfold Blk at h
 simp [World.cell?, h]
theorem Blk.frozen (h : Blk w g t cs) (i : Nat) : w.frozen? ⟨g, i, none⟩ = false := by
 unfold Blk at h
 simp [World.frozen?, h]
theorem Blk.new (w : World) (t : TypeId) (cs : List Value) : Blk (w.alloc (.cells cs.toArray t)) w.heap.size t cs := heap_alloc_new w _
theorem Blk.drew (h : Blk w g t cs) : Blk w.drew g t cs := h
theorem Blk.alloc (h : Blk w g t cs) (o : Obj) : Blk (w.alloc o) g t cs := (Below.heap_alloc w o g h.lt).trans h
theorem Blk.set_ (h : Blk w g t cs) (i : Nat) (u : Value) : Blk (w.setCell ⟨g, i, none⟩ u) g t (cs.set i u) := by
 unfold Blk at h ⊢
 simp [World.setCell, Array.getElem?_modify, h]
theorem Blk.far (h : Blk w g t cs) {p : Addr} (hp : g ≠ p.block) (u : Value) : Blk (w.setCell p u) g t cs := (Below.heap_setCell w p u g hp).trans h
theorem Blk.below {B : Nat} (h : Blk w g t cs) (hb : Below B w w') (hg : g < B) : Blk w' g t cs := (hb.block g hg).trans h
theorem Blk.grown {row : Option Nat} (h : Blk w g t cs) (hb : w.grownBy w' row) (hg : some g ≠ row) : Blk w' g t cs := (hb.block g h.lt hg).trans h
theorem own_ne_blk {base size n : Nat} {e : TypeId} {v : Value} {xs : List Value} (h : w.ownsRow base e size v n xs) (hg : Blk w g t cs) (hne : e ≠ t) : some g ≠ v.ownBlock := by
 rcases h.2 with ⟨rfl, _⟩ | ⟨g', cap, cur, rfl, _, hh, _⟩
 · simp [Value.ownBlock]
 · intro he
   have : g = g' := by simpa [Value.ownBlock] using he
   subst this
   unfold Blk at hg;rw [hg] at hh
   injection hh with h1
   injection h1 with _ h2
   exact hne h2.symm
end

theorem Rd.of_blk {w : World} {g B : Nat} {t : TypeId} {cs : List Value} (h : Blk w g t cs) (hg : g < B) (size n c : Nat) (hn : cs.length = n * size) (hc : n ≤ c) (hm : c ≤ maxLen) : Rd w B size (.slice (some ⟨g, 0, none⟩) n c) n cs :=
 ⟨_, c, rfl, hc, hm, hn, fun _ => ⟨g, 0, rfl, hg, fun j u hu => by rw [Nat.zero_add, h.cell]; exact hu⟩⟩
theorem Ints.of_blk {w : World} {g B : Nat} {t : TypeId} {xs : List Int} (h : Blk w g t (xs.map (.int .i64))) (hg : g < B) (c : Nat) (hc : xs.length ≤ c) (hm : c ≤ maxLen) : Ints w B (.slice (some ⟨g, 0, none⟩) xs.length c) xs :=
 Rd.of_blk h hg 1 _ c (by simp) hc hm
end Go.Proofs.YthdjgebbjogmiaaGreatDoor

namespace Go.Proofs.YthdjgebbjogmiaaGreatDoor
/-- Does a stand ahead of b? -/
def ltL : List Int → List Int → Bool
 | [], [] => false
 | [], _ :: _ => true
 | _ :: _, [] => false
 | a :: xs, b :: bs => decide (a < b) || (decide (a = b) && ltL xs bs)
theorem ltL_irrefl : ∀ a : List Int, ltL a a = false
 | [] => rfl
 | a :: xs => by simp [ltL, ltL_irrefl xs]
theorem ltL_trans : ∀ {a b c : List Int}, ltL a b = true → ltL b c = true → ltL a c = true
 | [], [], _, h, _ => by simp [ltL] at h
 | [], _ :: _, [], _, h' => by simp [ltL] at h'
 | [], _ :: _, _ :: _, _, _ => rfl
 | _ :: _, [], _, h, _ => by simp [ltL] at h
 | _ :: _, _ :: _, [], _, h' => by simp [ltL] at h'
 | a :: xs, b :: bs, c :: cs, h, h' => by
  simp only [ltL, Bool.or_eq_true, decide_eq_true_eq, Bool.and_eq_true] at h h' ⊢
  rcases h with h | ⟨rfl, h⟩
  · rcases h' with h' | ⟨rfl, h'⟩
    · exact .inl (by omega)
    · exact .inl h
  · rcases h' with h' | ⟨rfl, h'⟩
    · exact .inl h'
    · exact .inr ⟨rfl, ltL_trans h h'⟩
theorem ltL_total : ∀ {a b : List Int}, a ≠ b → ltL a b = true ∨ ltL b a = true
 | [], [], h => absurd rfl h
 | [], _ :: _, _ => .inl rfl
 | _ :: _, [], _ => .inr rfl
 | a :: xs, b :: bs, h => by
  simp only [ltL, Bool.or_eq_true, decide_eq_true_eq, Bool.and_eq_true]
  rcases Int.lt_trichotomy a b with h1 | rfl | h1
  · exact .inl (.inl h1)
  · rcases ltL_total (a := xs) (b := bs) (fun e => h (by rw [e])) with h2 | h2
    · exact .inl (.inr ⟨rfl, h2⟩)
    · exact .inr (.inr ⟨rfl, h2⟩)
  · exact .inr (.inl h1)
theorem ltL_asymm {a b : List Int} (h : ltL a b = true) : ltL b a = false := by
 cases h' : ltL b a
 · rfl
 · have := ltL_trans h h'
   rw [ltL_irrefl] at this
   cases this
end Go.Proofs.YthdjgebbjogmiaaGreatDoor

namespace Go.Proofs.YthdjgebbjogmiaaGreatDoor
open Go Go.RowKit
set_option maxRecDepth 100000

/-- A list of bytes as cells. -/
def u8s (xs : List Int) : List Value := xs.map (.int .u8)
theorem u8s_len (xs : List Int) : (u8s xs).length = xs.length := by simp [u8s]
theorem u8s_one (xs : List Int) : ∀ u ∈ u8s xs, u.oneCell' = true := by
 intro u hu;obtain ⟨x, _, rfl⟩ := List.mem_map.1 hu
 rfl
theorem u8s_set (xs : List Int) (i : Nat) (x : Int) : (u8s xs).set i (.int .u8 x) = u8s (xs.set i x) := by simp [u8s]

def Bytes (xs : List Int) : Prop := ∀ x ∈ xs, 0 ≤ x ∧ x < 256
theorem Bytes.get {xs : List Int} (h : Bytes xs) (i : Nat) (hi : i < xs.length) : 0 ≤ xs[i] ∧ xs[i] < 256 := h _ (List.getElem_mem hi)
theorem Bytes.set_ {xs : List Int} (h : Bytes xs) (i : Nat) {x : Int} (h0 : 0 ≤ x) (h1 : x < 256) : Bytes (xs.set i x) := fun y hy => by
 rcases List.mem_or_eq_of_mem_set hy with hy | rfl
 · exact h y hy
 · exact ⟨h0, h1⟩

theorem blk_u8 {w : World} {g : Nat} {t : TypeId} {xs : List Int} (h : Blk w g t (u8s xs)) (i : Nat) (hi : i < xs.length) : w.cell? ⟨g, i, none⟩ = some (.int .u8 xs[i]) := by
 unfold u8s at h;rw [h.cell, List.getElem?_map, List.getElem?_eq_getElem hi]
 rfl
theorem blk_get {w : World} {g : Nat} {t : TypeId} {xs : List Int} (h : Blk w g t (u8s xs)) (i : Nat) (x : Int) (hi : i < xs.length) (hx : xs.getD i 0 = x) : w.cell? ⟨g, i, none⟩ = some (.int .u8 x) := by
 rw [blk_u8 h i hi, ← hx, List.getD_eq_getElem?_getD, List.getElem?_eq_getElem hi]
 rfl
theorem blk_set {w : World} {g : Nat} {t : TypeId} {xs : List Int} (h : Blk w g t (u8s xs)) (i : Nat) (x : Int) : Blk (w.setCell ⟨g, i, none⟩ (.int .u8 x)) g t (u8s (xs.set i x)) := by
 rw [← u8s_set];exact h.set_ i _

section
variable {P : Program}
theorem wpList_load_blk {ops : Array Oper} {rest : List Oper} {o : Oper} {a : Act} {w : World} {Q : Exit → Act → World → Prop} (hgd : o.guard = none) (ty : TypeId) (x : Operand) (ho : o.op = .load ty x)
 (g : Nat) (hx : a.eval x = .pointer (some ⟨g, 0, none⟩)) (t : TypeId) (cs : List Value) (hg : Blk w g t cs) (len : Nat) (e : TypeId)
 (hu : P.underlying ty = some (.array len e)) (hi : (P.info? ty).map (·.size) = some cs.length)
 (h : wpList P ops Q rest (a.put o.dst (.agg cs.toArray)) w) : wpList P ops Q (o :: rest) a w :=
 wpList_load_row hgd ty x ho g hx t cs.toArray (0, 0) _ hg hu rfl (by simpa using hi) h
end

/-- A list with the values vs laid in from place o on. -/
def lset : List Value → Nat → List Value → List Value
 | cs, _, [] => cs
 | cs, o, v :: r => lset (cs.set o v) (o + 1) r
theorem lset_get (vs : List Value) : ∀ (cs : List Value) (o j : Nat), o + vs.length ≤ cs.length → (lset cs o vs)[j]? = if o ≤ j ∧ j < o + vs.length then vs[j - o]? else cs[j]? := by
 induction vs with
 | nil => intro cs o j _; rw [lset, if_neg (by simp only [List.length_nil]; omega)]
 | cons v r ih =>
  intro cs o j h;simp only [List.length_cons] at h;rw [lset, ih _ _ _ (by simp; omega), List.getElem?_set]
  by_cases h1 : o = j
  · subst h1
    rw [if_neg (by omega), if_pos rfl, if_pos (by omega), if_pos ⟨by omega, by simp⟩]
    simp
  · rw [if_neg h1]
    by_cases h2 : o + 1 ≤ j ∧ j < o + 1 + r.length
    · rw [if_pos h2, if_pos ⟨by omega, by simp; omega⟩, show j - o = (j - (o + 1)) + 1 from by omega]
      simp
    · rw [if_neg h2, if_neg (by simp; omega)]
theorem lset_all (cs vs : List Value) (h : cs.length = vs.length) : lset cs 0 vs = vs := by
 refine List.ext_getElem? fun j => ?_
 rw [lset_get _ _ _ _ (by omega)]
 by_cases hj : j < vs.length
 · rw [if_pos ⟨by omega, by omega⟩]; rfl
 · rw [if_neg (by omega), List.getElem?_eq_none (by omega), List.getElem?_eq_none (by omega)]

theorem Blk.setCells {g : Nat} {t : TypeId} (vs : List Value) : ∀ {w : World} {cs : List Value} (o : Nat), Blk w g t cs → Blk (w.setCells g o vs) g t (lset cs o vs) := by
 induction vs with
 | nil => intro w cs o h; exact h
 | cons v r ih => intro w cs o h; exact ih (o + 1) (h.set_ o v)
theorem grown_setCells {g : Nat} (vs : List Value) : ∀ (w : World) (o : Nat), w.grownBy (w.setCells g o vs) (some g) ∧ (w.setCells g o vs).heap.size = w.heap.size := by
 induction vs with
 | nil => intro w o; exact ⟨World.grownBy.refl _ _, rfl⟩
 | cons v r ih =>
  intro w o;obtain ⟨h1, h2⟩ := ih (w.setCell ⟨g, o, none⟩ v) (o + 1);refine ⟨⟨h1.os, h1.tape, h1.output, by rw [World.setCells, h2]; simp [World.setCell], fun i hi hne => ?_⟩, by rw [World.setCells, h2]; simp [World.setCell]⟩;have := h1.block i (by simpa [World.setCell] using hi) hne;rw [World.setCells, this];exact Below.heap_setCell w _ v i (fun e => hne (by rw [e]))

section
variable {P : Program}
theorem blk_there {w : World} {g : Nat} {t : TypeId} {cs : List Value} (h : Blk w g t cs) (o n : Nat) (hn : o + n ≤ cs.length) : w.there g o n := fun j hj => by
 refine ⟨?_, h.frozen _⟩;rw [h.cell, List.getElem?_eq_getElem (by omega)]
 rfl
theorem wp_store_blk {op : Oper} {a : Act} {w : World} {K : Act → World → Prop} {Q : Exit → Act → World → Prop} (ty : TypeId) (x y : Operand) (ho : op.op = .store ty x y)
 (g o : Nat) (vs : List Value) (hx : a.eval x = .pointer (some ⟨g, o, none⟩)) (hy : a.eval y = .agg vs.toArray) (t : TypeId) (cs : List Value) (hg : Blk w g t cs) (hn : o + vs.length ≤ cs.length)
 (hi : (P.info? ty).map (·.size) = some vs.length) (h1 : ∀ u ∈ vs, u.oneCell' = true)
 (h : ∀ w', Blk w' g t (lset cs o vs) → w.grownBy w' (some g) → w'.heap.size = w.heap.size → K (a.put op.dst undef) w') : op.wp P a w K Q :=
 wp_store_mid ty x y ho g o vs.toArray hx hy (by simpa using blk_there hg o vs.length hn) (by simpa using hi) (all_oneCell_toArray h1)
  (h _ (Blk.setCells vs o hg) (grown_setCells vs w o).1 (grown_setCells vs w o).2)
/-- An array is written whole into a block. -/
theorem wpList_store_blk {ops : Array Oper} {rest : List Oper} {op : Oper} {a : Act} {w : World} {Q : Exit → Act → World → Prop} (hgd : op.guard = none) (ty : TypeId) (x y : Operand) (ho : op.op = .store ty x y)
 (g o : Nat) (vs : List Value) (hx : a.eval x = .pointer (some ⟨g, o, none⟩)) (hy : a.eval y = .agg vs.toArray) (t : TypeId) (cs : List Value) (hg : Blk w g t cs) (hn : o + vs.length ≤ cs.length)
 (hi : (P.info? ty).map (·.size) = some vs.length) (h1 : ∀ u ∈ vs, u.oneCell' = true)
 (h : ∀ w', Blk w' g t (lset cs o vs) → w.grownBy w' (some g) → w'.heap.size = w.heap.size → wpList P ops Q rest (a.put op.dst undef) w') : wpList P ops Q (op :: rest) a w :=
 wpList_plain hgd fun _ hK => wp_store_blk ty x y ho g o vs hx hy t cs hg hn hi h1 fun w' a1 a2 a3 => hK _ _ (h w' a1 a2 a3)
theorem blk_range {w : World} {g : Nat} {t : TypeId} {cs : List Value} (h : Blk w g t cs) (o : Nat) (vs : List Value) (hv : ∀ j u, vs[j]? = some u → cs[o + j]? = some u) : w.rangeAt g o vs := fun j v hj => by
 rw [h.cell]; exact hv j v hj
end

section
variable {P : Program}
theorem run_alloc_zero (w : World) {t : TypeId} {i : TypeInfo} {z : Value} (hi : P.info? t = some i) (hz : i.zero = some z) :
 (Instr.alloc t true (.tuple #[])).run P w = .ok (.pointer (some ⟨w.heap.size, 0, none⟩)) (w.alloc (.cells z.cells t)) := by
 simp [Instr.alloc, zeroValue, typeInfo, hi, hz, newVar, newRow]

theorem wp_alloc_blk {o : Oper} {a : Act} {w : World} {K : Act → World → Prop} {Q : Exit → Act → World → Prop} (t : TypeId) (ho : o.op = .alloc t) (cs : List Value)
 (hz : (P.info? t).map (·.zero) = some (some (.agg cs.toArray)))
 (h : ∀ w', Blk w' w.heap.size t cs → Below w.heap.size w w' → w'.heap.size = w.heap.size + 1 → K (a.put o.dst (.pointer (some ⟨w.heap.size, 0, none⟩))) w') : o.wp P a w K Q := by
 obtain ⟨i, hi, hz⟩ := Option.map_eq_some_iff.1 hz;have hr := run_alloc_zero w hi hz;unfold Oper.wp execOp;simp only [ho, Sem.run_bind, hr, Result.andThen_ok, Sem.run_pure];exact h _ (Blk.new w t cs) ((Below.refl _ _).alloc (Nat.le_refl _) _) (by simp)
theorem wpList_alloc_blk {ops : Array Oper} {rest : List Oper} {o : Oper} {a : Act} {w : World} {Q : Exit → Act → World → Prop} (hgd : o.guard = none) (t : TypeId) (ho : o.op = .alloc t) (cs : List Value)
 (hz : (P.info? t).map (·.zero) = some (some (.agg cs.toArray)))
 (h : ∀ w', Blk w' w.heap.size t cs → Below w.heap.size w w' → w'.heap.size = w.heap.size + 1 → wpList P ops Q rest (a.put o.dst (.pointer (some ⟨w.heap.size, 0, none⟩))) w') : wpList P ops Q (o :: rest) a w :=
 wpList_plain hgd fun _ hK => wp_alloc_blk t ho cs hz fun w' h1 h2 h3 => hK _ _ (h w' h1 h2 h3)
end
theorem zero256 : (Tryz.prog.info? 82).map (·.zero) = some (some (.agg (u8s (List.replicate 256 0)).toArray)) := by kernel_rfl
theorem zero16 : (Tryz.prog.info? 22).map (·.zero) = some (some (.agg (u8s (List.replicate 16 0)).toArray)) := by kernel_rfl
theorem zero176 : (Tryz.prog.info? 84).map (·.zero) = some (some (.agg (u8s (List.replicate 176 0)).toArray)) := by kernel_rfl
theorem size256 : (Tryz.prog.info? 82).map (·.size) = some 256 := by kernel_rfl
theorem size16 : (Tryz.prog.info? 22).map (·.size) = some 16 := by kernel_rfl
theorem size176 : (Tryz.prog.info? 84).map (·.size) = some 176 := by kernel_rfl

theorem grown_drew {w w' : World} {row : Option Nat} (h : w.grownBy w' row) : w.grownBy w'.drew row := ⟨h.os, h.tape, h.output, h.size, h.block⟩
theorem grown_of_below {w w' : World} {B : Nat} (hb : Below B w w') (h : w.heap.size ≤ B) (row : Option Nat := none) : w.grownBy w' row :=
 ⟨hb.os, hb.tape, hb.output, hb.size, fun k hk _ => hb.block k (by omega)⟩
section
variable {P : Program}
theorem wp_alloc_blkD {o : Oper} {a : Act} {w : World} {K : Act → World → Prop} {Q : Exit → Act → World → Prop} (t d : Nat) (ho : o.op = .alloc t) (hd : o.dst = some d) (cs : List Value)
 (hz : (P.info? t).map (·.zero) = some (some (.agg cs.toArray)))
 (h : ∀ w', Blk w' w.heap.size t cs → Below w.heap.size w w' → w'.heap.size = w.heap.size + 1 → K (a.put (some d) (.pointer (some ⟨w.heap.size, 0, none⟩))) w') : o.wp P a w K Q :=
 wp_alloc_blk t ho cs hz fun w' h1 h2 h3 => by rw [hd]; exact h w' h1 h2 h3
theorem wp_store_blkD {op : Oper} {a : Act} {w : World} {K : Act → World → Prop} {Q : Exit → Act → World → Prop} (ty : TypeId) (x y : Operand) (ho : op.op = .store ty x y) (hd : op.dst = none)
 (g o : Nat) (vs : List Value) (hx : a.eval x = .pointer (some ⟨g, o, none⟩)) (hy : a.eval y = .agg vs.toArray) (t : TypeId) (cs : List Value) (hg : Blk w g t cs) (hn : o + vs.length ≤ cs.length)
 (hi : (P.info? ty).map (·.size) = some vs.length) (h1 : ∀ u ∈ vs, u.oneCell' = true)
 (h : ∀ w', Blk w' g t (lset cs o vs) → w.grownBy w' (some g) → w'.heap.size = w.heap.size → K a w') : op.wp P a w K Q :=
 wp_store_blk ty x y ho g o vs hx hy t cs hg hn hi h1 fun w' a1 a2 a3 => by rw [hd]; exact h w' a1 a2 a3
end


theorem el_u8 : ElemOf Tryz.prog 26 5 1 1 := elem_of Tryz.underlying26 (z := .int .u8 0) (by kernel_rfl) rfl (by decide) (by decide)
theorem made_u8 (n : Nat) : madeCells #[Value.int .u8 0] n = (u8s (List.replicate n 0)).toArray := by
 apply Array.ext
 · simp [madeCells, u8s]
 · intro i h1 h2
   simp [madeCells, u8s, Nat.mod_one]
theorem run_make_bytes (w : World) (kl kc : IntKind) (n c : Nat) (hnc : n ≤ c) (hc : c ≤ 281474976710656) :
 (Instr.makeSlice 26 (.int kl (n : Int)) (.int kc (c : Int))).run Tryz.prog w = .ok (.slice (some ⟨w.heap.size, 0, none⟩) n c) (w.alloc (.cells (u8s (List.replicate c 0)).toArray 5)) := by
 obtain ⟨i, z, ht, hi, hz, hsize, hby, hzs, _, _⟩ := el_u8;have h := run_make (P := Tryz.prog) w _ _ i z ht hi hz kl kc n c (by omega) (by omega) (by rw [hby]; omega) (by omega);rw [h, hsize]
 have hz' : z = .int .u8 0 := by
  have : (Tryz.prog.info? 5).map (·.zero) = some (some (.int .u8 0)) := by kernel_rfl
  rw [hi] at this
  simp [hz] at this
  exact this
 subst hz';have := made_u8 c;simp only [Int.toNat_natCast, Nat.mul_one];rw [show (Value.int IntKind.u8 0).cells = #[Value.int .u8 0] from rfl, this]
theorem wpList_make_bytes {ops : Array Oper} {rest : List Oper} {o : Oper} {a : Act} {w : World} {Q : Exit → Act → World → Prop} (hgd : o.guard = none) (x y : Operand) (ho : o.op = .makeSlice 26 x y)
 (kl kc : IntKind) (n c : Nat) (hx : a.eval x = .int kl (n : Int)) (hy : a.eval y = .int kc (c : Int)) (hnc : n ≤ c) (hc : c ≤ 281474976710656)
 (h : ∀ w', Blk w' w.heap.size 5 (u8s (List.replicate c 0)) → Below w.heap.size w w' → w'.heap.size = w.heap.size + 1 → wpList Tryz.prog ops Q rest (a.put o.dst (.slice (some ⟨w.heap.size, 0, none⟩) n c)) w') : wpList Tryz.prog ops Q (o :: rest) a w :=
 wpList_plain hgd fun _ hK => by
  have hr := run_make_bytes w kl kc n c hnc hc;unfold Oper.wp execOp;simp only [ho, hx, hy, Sem.run_bind, hr, Result.andThen_ok, Sem.run_pure];exact hK _ _ (h _ (Blk.new w _ _) ((Below.refl _ _).alloc (Nat.le_refl _) _) (by simp))

/-- A slice of bytes. -/
def Bs (w : World) (B : Nat) (v : Value) (xs : List Int) : Prop := Rd w B 1 v xs.length (u8s xs)
/-- A row of bytes of the call's own. -/
def Own8 (w : World) (base : Nat) (v : Value) (xs : List Int) : Prop := w.ownsRow base 5 1 v xs.length (u8s xs)
section
variable {w w' : World} {B B' base : Nat} {v : Value} {xs : List Int}
theorem Bs.open_ (h : Bs w B v xs) :
 ∃ (A : Option Addr) (c : Nat), v = .slice A xs.length c ∧ xs.length ≤ c ∧ c ≤ maxLen ∧
 (0 < xs.length → ∃ b o, A = some ⟨b, o, none⟩ ∧ b < B ∧ ∀ j (x : Int), j < xs.length → xs.getD j 0 = x → w.cell? ⟨b, o + j, none⟩ = some (.int .u8 x)) := by
 obtain ⟨A, c, rfl, h1, h2, _, h3⟩ := h;refine ⟨A, c, rfl, h1, h2, fun hp => ?_⟩;obtain ⟨b, o, rfl, hb, hc⟩ := h3 hp;refine ⟨b, o, rfl, hb, fun j x hj hx => hc j _ ?_⟩;unfold u8s;rw [List.getElem?_map, List.getElem?_eq_getElem hj, ← hx, List.getD_eq_getElem?_getD, List.getElem?_eq_getElem hj]
 rfl
theorem Bs.below (h : Bs w B v xs) (hb : Below B' w w') (hB : B ≤ B') : Bs w' B v xs := Rd.belowM h hb hB
theorem Bs.more (h : Bs w B v xs) (hB : B ≤ B') : Bs w B' v xs := Rd.more h hB
theorem Bs.nil_ (w : World) (B : Nat) : Bs w B (.slice none 0 0) [] := Rd.nil_ w B 1
theorem Own8.reads (h : Own8 w base v xs) : Bs w w.heap.size v xs := Rd.of_own h
theorem Own8.of_blk {g : Nat} (h : Blk w g 5 (u8s xs)) (hb : base ≤ g) (hm : xs.length ≤ maxLen) : Own8 w base (.slice (some ⟨g, 0, none⟩) xs.length xs.length) xs :=
 ⟨by simp [u8s], .inr ⟨g, xs.length, (u8s xs).toArray, rfl, hb, h, Nat.le_refl _, hm, by simp [u8s], by rw [Nat.mul_one, List.take_of_length_le (by simp [u8s])]⟩⟩
theorem Own8.keptB (h : Own8 w base v xs) (hb : Below w.heap.size w w') : Own8 w' base v xs := own_keptB h hb
theorem Own8.more (h : Own8 w base v xs) (hb : B ≤ base) : Own8 w B v xs := own_more h hb
end
end Go.Proofs.YthdjgebbjogmiaaGreatDoor
