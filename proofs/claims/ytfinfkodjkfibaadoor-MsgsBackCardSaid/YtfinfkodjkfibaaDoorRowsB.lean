/- Lists of rows of bytes: reading them, and lists of the call's own. No condition. -/
import Derived.Test.YtfinfkodjkfibaaDoorRowB
namespace Go.Proofs.YtfinfkodjkfibaaDoor
open Go Go.RowKit

theorem el_brows : ElemOf Tryd.prog 72 26 1 24 := elem_of Tryd.underlying72 (z := .slice none 0 0) (by kernel_rfl) rfl (by decide) (by decide)

/-- A slice of slices of bytes. -/
def RowsB (w : World) (B : Nat) (v : Value) (rows : List (List Int)) : Prop :=
  ∃ vs : List Value, Rd w B 1 v rows.length vs ∧ vs.length = rows.length ∧ ∀ i (hi : i < rows.length), ∃ u, vs[i]? = some u ∧ Bs w B u rows[i]
section
variable {w w' : World} {B B' base : Nat} {v v' : Value} {rows : List (List Int)}
theorem RowsB.open_ (h : RowsB w B v rows) :
    ∃ (A : Option Addr) (c : Nat), v = .slice A rows.length c ∧ rows.length ≤ c ∧ c ≤ maxLen ∧
    (0 < rows.length → ∃ b o, A = some ⟨b, o, none⟩ ∧ b < B ∧ ∀ j (hj : j < rows.length), ∃ u, w.cell? ⟨b, o + j, none⟩ = some u ∧ Bs w B u rows[j]) := by
  obtain ⟨vs, ⟨A, c, rfl, h1, h2, h4, h3⟩, hl, hr⟩ := h
  refine ⟨A, c, rfl, h1, h2, fun hp => ?_⟩
  obtain ⟨b, o, rfl, hb, hc⟩ := h3 hp
  refine ⟨b, o, rfl, hb, fun j hj => ?_⟩
  obtain ⟨u, hu, hi⟩ := hr j hj
  exact ⟨u, hc j u hu, hi⟩
theorem RowsB.below (h : RowsB w B v rows) (hb : Below B' w w') (hB : B ≤ B') : RowsB w' B v rows := by
  obtain ⟨vs, hv, hl, hr⟩ := h
  refine ⟨vs, hv.belowM hb hB, hl, fun i hi => ?_⟩
  obtain ⟨u, hu, hx⟩ := hr i hi
  exact ⟨u, hu, hx.below hb hB⟩
theorem RowsB.more (h : RowsB w B v rows) (hB : B ≤ B') : RowsB w B' v rows := by
  obtain ⟨vs, hv, hl, hr⟩ := h
  refine ⟨vs, hv.more hB, hl, fun i hi => ?_⟩
  obtain ⟨u, hu, hx⟩ := hr i hi
  exact ⟨u, hu, hx.more hB⟩
theorem RowsB.nil_ (w : World) (B : Nat) : RowsB w B (.slice none 0 0) [] := ⟨[], Rd.nil_ _ _ _, rfl, fun i hi => absurd hi (by simp)⟩

/-- An element of such a list: it lies below the call's own, or is a row of its own. -/
def ElB (w : World) (base : Nat) (u : Value) (xs : List Int) : Prop := Bs w base u xs ∨ RowB w base u xs
theorem ElB.reads {u : Value} {xs : List Int} (h : ElB w base u xs) (hb : base ≤ w.heap.size) : Bs w w.heap.size u xs := by
  rcases h with h | h
  · exact h.more hb
  · exact h.reads
theorem ElB.one {u : Value} {xs : List Int} (h : ElB w base u xs) : u.oneCell' = true := by
  rcases h with h | h
  · obtain ⟨A, c, rfl, _⟩ := h.open_; rfl
  · obtain ⟨A, c, rfl⟩ := h.shape; rfl
theorem ElB.keptB {u : Value} {xs : List Int} (h : ElB w base u xs) (hb : Below w.heap.size w w') (hB : base ≤ w.heap.size) : ElB w' base u xs := by
  rcases h with h | h
  · exact .inl (h.below hb hB)
  · exact .inr (h.keptB hb)
/-- A list of rows of bytes of the call's own. -/
def OwnRows (w : World) (base : Nat) (v : Value) (rows : List (List Int)) : Prop :=
  ∃ vs : List Value, w.ownsRow base 26 1 v rows.length vs ∧ ∀ i (hi : i < rows.length), ∃ u, vs[i]? = some u ∧ ElB w base u rows[i]
theorem OwnRows.nil_ (w : World) (base : Nat) : OwnRows w base (.slice none 0 0) [] := ⟨[], World.ownsRow_nil _ _ _ _, fun i hi => absurd hi (by simp)⟩
theorem OwnRows.keptB (h : OwnRows w base v rows) (hb : Below w.heap.size w w') (hB : base ≤ w.heap.size) : OwnRows w' base v rows := by
  obtain ⟨vs, h1, h2⟩ := h
  refine ⟨vs, own_keptB h1 hb, fun i hi => ?_⟩
  obtain ⟨u, hu, hx⟩ := h2 i hi
  exact ⟨u, hu, hx.keptB hb hB⟩
theorem OwnRows.reads (h : OwnRows w base v rows) (hB : base ≤ w.heap.size) : RowsB w w.heap.size v rows := by
  obtain ⟨vs, h1, h2⟩ := h
  refine ⟨vs, Rd.of_own h1, by have := h1.1; omega, fun i hi => ?_⟩
  obtain ⟨u, hu, hx⟩ := h2 i hi
  exact ⟨u, hu, hx.reads hB⟩
theorem rowB_grown {u : Value} {xs : List Int} {n base' : Nat} {vs : List Value} (hx : RowB w base' u xs) (h : w.ownsRow base 26 1 v n vs) (hg : w.grownBy w' v.ownBlock) : RowB w' base' u xs := by
  refine hx.kept hg ?_
  rcases hx with ⟨rfl, rfl⟩ | ⟨g, cap, cur, f, rfl, _, hb, _⟩
  · exact .inl rfl
  · refine .inr fun e => ?_
    rcases h.2 with ⟨rfl, _⟩ | ⟨g', cap', cur', rfl, _, hh, _⟩
    · cases e
    · simp [Value.ownBlock] at e
      subst e
      unfold BlkF at hb
      rw [hb] at hh
      injection hh with hh
      injection hh with _ ht _
      exact absurd ht (by decide)
theorem elB_grown {u : Value} {xs : List Int} {n : Nat} {vs : List Value} (hx : ElB w base u xs) (h : w.ownsRow base 26 1 v n vs) (hg : w.grownBy w' v.ownBlock) (hB : base ≤ w.heap.size) : ElB w' base u xs := by
  rcases hx with hx | hx
  · exact .inl (hx.below ((Below.refl base w).grown hg hB (own_base h)) (Nat.le_refl _))
  · exact .inr (rowB_grown hx h hg)
theorem OwnRows.push {vs : List Value} (h : w.ownsRow base 26 1 v rows.length vs) (h2 : ∀ i (hi : i < rows.length), ∃ u, vs[i]? = some u ∧ ElB w base u rows[i]) (hB : base ≤ w.heap.size) {u : Value} {r : List Int} (hu : ElB w base u r)
    (h' : w'.ownsRow base 26 1 v' (rows.length + 1) (vs ++ [u])) (hg : w.grownBy w' v.ownBlock) : OwnRows w' base v' (rows ++ [r]) := by
  have hl : vs.length = rows.length := by have := h.1; omega
  refine ⟨vs ++ [u], by simpa using h', fun i hi => ?_⟩
  rcases Nat.lt_or_ge i rows.length with h3 | h3
  · obtain ⟨u', hu', hx⟩ := h2 i h3
    refine ⟨u', by rw [List.getElem?_append_left (by omega)]; exact hu', ?_⟩
    rw [List.getElem_append_left h3]
    exact elB_grown hx h hg hB
  · have : i = rows.length := by simp at hi; omega
    subst this
    refine ⟨u, by rw [← hl]; simp, ?_⟩
    simpa using elB_grown hu h hg hB
end

/-- 'l = append(l, r)': the world behind the one-cell block of r. -/
theorem wpList_append_row {ops : Array Oper} {rest : List Oper} {o : Oper} {a : Act} {w : World} {Q : Exit → Act → World → Prop} (hgd : o.guard = none) (s x : Operand) (ho : o.op = .call { callee := .builtin .append, args := #[s, x], argTypes := #[72, 72] })
    (base : Nat) (v : Value) (rows : List (List Int)) (hs : a.eval s = v) (hown : OwnRows w base v rows) (hB : base ≤ w.heap.size) (u : Value) (r : List Int) (hu : ElB w base u r)
    (hx : a.eval x = .slice (some ⟨w.heap.size, 0, none⟩) 1 1) (hn : rows.length ≤ 1000000)
    (h : ∀ v' w', OwnRows w' base v' (rows ++ [r]) → Below base w w' → (∀ (b : Nat) (z : Value) (ys : List Int), RowB w b z ys → RowB w' b z ys) → wpList Tryd.prog ops Q rest (a.put o.dst v') w') : wpList Tryd.prog ops Q (o :: rest) a (w.alloc (.cells #[u] 26)) := by
  have hba := (Below.refl w.heap.size w).alloc (Nat.le_refl _) (.cells #[u] 26)
  have hown' := hown.keptB hba hB
  have hz := hba.size
  obtain ⟨vs, h1, h2⟩ := hown'
  refine wpList_append_rd _ hgd s x _ ho base _ _ _ el_brows v rows.length vs hs h1 (w.heap.size + 1) _ 1 [u] hx (Rd.one w 26 u) (fun z hz => by simp at hz; subst hz; exact hu.one) (by omega) (by omega) ?_
  intro v' w' ho' hg _
  exact h v' w' (OwnRows.push h1 h2 (by omega) (hu.keptB hba hB) ho' hg) ((hba.mono hB).grown hg (by omega) (own_base h1)) fun b z ys hz' => rowB_grown (hz'.keptB hba) h1 hg
end Go.Proofs.YtfinfkodjkfibaaDoor
