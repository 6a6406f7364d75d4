/- Lists of blobs (a number and bytes): reading them, and lists of the call's own. No condition. -/
import Derived.Test.YtfinfkodjkfibaaDoorRowsB
import Derived.Test.YtfinfkodjkfibaaDoorMsgLaws
namespace Go.Proofs.YtfinfkodjkfibaaDoor
open Go Go.RowKit
set_option maxRecDepth 100000
set_option linter.unusedVariables false
theorem el_blobs : ElemOf Tryd.prog 23 44 2 32 := elem_of Tryd.underlying23 (z := .agg #[.int .i64 0, .slice none 0 0]) (by kernel_rfl) rfl (by decide) (by decide)
/-- The blobs' cells: a number, a row's value. -/
def cellsB : List Int → List Value → List Value
  | n :: ns, u :: us => .int .i64 n :: u :: cellsB ns us
  | _, _ => []
theorem cellsB_len : ∀ (ns : List Int) (us : List Value), ns.length = us.length → (cellsB ns us).length = us.length * 2
  | [], [], _ => rfl
  | n :: ns, u :: us, h => by
    have ih := cellsB_len ns us (by simpa using h)
    show (Value.int .i64 n :: u :: cellsB ns us).length = _
    rw [List.length_cons, List.length_cons, ih, List.length_cons]
    omega
theorem cellsB_get : ∀ (ns : List Int) (us : List Value) (h : ns.length = us.length) (i : Nat) (hi : i < us.length), (cellsB ns us)[i * 2]? = some (.int .i64 (ns[i]'(by omega))) ∧ (cellsB ns us)[i * 2 + 1]? = some us[i]
  | [], us, h, i, hi => absurd hi (by have : us.length = 0 := by simpa using h.symm
                                      omega)
  | n :: ns, u :: us, h, 0, _ => ⟨rfl, rfl⟩
  | n :: ns, u :: us, h, i + 1, hi => by
    have ih := cellsB_get ns us (by simpa using h) i (by simpa using hi)
    have e : cellsB (n :: ns) (u :: us) = .int .i64 n :: u :: cellsB ns us := rfl
    rw [e, show (i + 1) * 2 = i * 2 + 2 by omega, show i * 2 + 2 + 1 = (i * 2 + 1) + 2 by omega]
    simpa using ih
theorem cellsB_snoc : ∀ (ns : List Int) (us : List Value) (n : Int) (u : Value), ns.length = us.length → cellsB (ns ++ [n]) (us ++ [u]) = cellsB ns us ++ [.int .i64 n, u]
  | [], [], n, u, _ => rfl
  | m :: ns, v :: us, n, u, h => by
    have ih := cellsB_snoc ns us n u (by simpa using h)
    show Value.int .i64 m :: v :: cellsB (ns ++ [n]) (us ++ [u]) = _
    rw [ih]; rfl
theorem cellsB_one : ∀ (ns : List Int) (us : List Value), (∀ u ∈ us, u.oneCell' = true) → ∀ u ∈ cellsB ns us, u.oneCell' = true
  | [], _, _, u, hu => by cases hu
  | _ :: _, [], _, u, hu => by cases hu
  | n :: ns, v :: us, h, u, hu => by
    have hu' : u ∈ (Value.int .i64 n :: v :: cellsB ns us) := hu
    rcases List.mem_cons.1 hu' with rfl | hu'
    · rfl
    · rcases List.mem_cons.1 hu' with rfl | hu'
      · exact h _ List.mem_cons_self
      · exact cellsB_one ns us (fun x hx => h x (List.mem_cons_of_mem _ hx)) u hu'
/-- A slice of blobs. -/
def BlbsB (w : World) (B : Nat) (v : Value) (l : List Msg.Blb) : Prop :=
  ∃ us : List Value, us.length = l.length ∧ Rd w B 2 v l.length (cellsB (l.map Prod.fst) us) ∧ ∀ i (hi : i < l.length), ∃ u, us[i]? = some u ∧ Bs w B u l[i].2
section
variable {w w' : World} {B B' base : Nat} {v v' : Value} {l : List Msg.Blb}
theorem BlbsB.open_ (h : BlbsB w B v l) :
    ∃ (A : Option Addr) (c : Nat), v = .slice A l.length c ∧ l.length ≤ c ∧ c ≤ maxLen ∧
    (0 < l.length → ∃ b o, A = some ⟨b, o, none⟩ ∧ b < B ∧ ∀ j (hj : j < l.length), w.cell? ⟨b, o + j * 2, none⟩ = some (.int .i64 l[j].1) ∧ ∃ u, w.cell? ⟨b, o + j * 2 + 1, none⟩ = some u ∧ Bs w B u l[j].2) := by
  obtain ⟨us, hl, ⟨A, c, rfl, h1, h2, h4, h3⟩, hr⟩ := h
  refine ⟨A, c, rfl, h1, h2, fun hp => ?_⟩
  obtain ⟨b, o, rfl, hb, hc⟩ := h3 hp
  refine ⟨b, o, rfl, hb, fun j hj => ?_⟩
  obtain ⟨u, hu, hi⟩ := hr j hj
  have hg := cellsB_get (l.map Prod.fst) us (by simp [hl]) j (by omega)
  have hu2 : us[j]'(by omega) = u := by rw [List.getElem?_eq_getElem (by omega)] at hu; injection hu
  rw [hu2] at hg
  refine ⟨?_, u, ?_, hi⟩
  · have := hc _ _ hg.1
    rwa [List.getElem_map] at this
  · have := hc _ _ hg.2
    rwa [← Nat.add_assoc] at this
theorem BlbsB.below (h : BlbsB w B v l) (hb : Below B' w w') (hB : B ≤ B') : BlbsB w' B v l := by
  obtain ⟨us, hl, hv, hr⟩ := h
  refine ⟨us, hl, hv.belowM hb hB, fun i hi => ?_⟩
  obtain ⟨u, hu, hx⟩ := hr i hi
  exact ⟨u, hu, hx.below hb hB⟩
theorem BlbsB.more (h : BlbsB w B v l) (hB : B ≤ B') : BlbsB w B' v l := by
  obtain ⟨us, hl, hv, hr⟩ := h
  refine ⟨us, hl, hv.more hB, fun i hi => ?_⟩
  obtain ⟨u, hu, hx⟩ := hr i hi
  exact ⟨u, hu, hx.more hB⟩
theorem BlbsB.nil_ (w : World) (B : Nat) : BlbsB w B (.slice none 0 0) [] := ⟨[], rfl, Rd.nil_ _ _ _, fun i hi => absurd hi (by simp)⟩
/-- A list of blobs of the call's own. -/
def OwnBlbs (w : World) (base : Nat) (v : Value) (l : List Msg.Blb) : Prop :=
  ∃ us : List Value, us.length = l.length ∧ w.ownsRow base 44 2 v l.length (cellsB (l.map Prod.fst) us) ∧ ∀ i (hi : i < l.length), ∃ u, us[i]? = some u ∧ ElB w base u l[i].2
theorem OwnBlbs.nil_ (w : World) (base : Nat) : OwnBlbs w base (.slice none 0 0) [] := ⟨[], rfl, World.ownsRow_nil _ _ _ _, fun i hi => absurd hi (by simp)⟩
theorem OwnBlbs.keptB (h : OwnBlbs w base v l) (hb : Below w.heap.size w w') (hB : base ≤ w.heap.size) : OwnBlbs w' base v l := by
  obtain ⟨us, hl, h1, h2⟩ := h
  refine ⟨us, hl, own_keptB h1 hb, fun i hi => ?_⟩
  obtain ⟨u, hu, hx⟩ := h2 i hi
  exact ⟨u, hu, hx.keptB hb hB⟩
theorem OwnBlbs.reads (h : OwnBlbs w base v l) (hB : base ≤ w.heap.size) : BlbsB w w.heap.size v l := by
  obtain ⟨us, hl, h1, h2⟩ := h
  refine ⟨us, hl, Rd.of_own h1, fun i hi => ?_⟩
  obtain ⟨u, hu, hx⟩ := h2 i hi
  exact ⟨u, hu, hx.reads hB⟩
theorem OwnBlbs.shape (h : OwnBlbs w base v l) : ∃ A c, v = .slice A l.length c := by
  obtain ⟨us, _, h1, _⟩ := h
  exact own_shape h1
theorem rowB_grownT {u : Value} {xs : List Int} {n base' size : Nat} {t : TypeId} {vs : List Value} (hx : RowB w base' u xs) (h : w.ownsRow base t size v n vs) (ht0 : t ≠ 5) (hg : w.grownBy w' v.ownBlock) : RowB w' base' u xs := by
  refine hx.kept hg ?_
  rcases hx with ⟨rfl, rfl⟩ | ⟨g, cap, cur, f, rfl, _, hb, _⟩
  · exact .inl rfl
  · refine .inr fun e => ?_
    rcases h.2 with ⟨rfl, _⟩ | ⟨g', cap', cur', rfl, _, hh, _⟩
    · cases e
    · simp [Value.ownBlock] at e
      subst e
      unfold BlkF at hb
      rw [hb] at hh
      injection hh with hh
      injection hh with _ ht _
      exact ht0 ht.symm
theorem elB_grownT {u : Value} {xs : List Int} {n size : Nat} {t : TypeId} {vs : List Value} (hx : ElB w base u xs) (h : w.ownsRow base t size v n vs) (ht0 : t ≠ 5) (hg : w.grownBy w' v.ownBlock) (hB : base ≤ w.heap.size) : ElB w' base u xs := by
  rcases hx with hx | hx
  · exact .inl (hx.below ((Below.refl base w).grown hg hB (own_base h)) (Nat.le_refl _))
  · exact .inr (rowB_grownT hx h ht0 hg)
theorem OwnBlbs.push {us : List Value} (hl : us.length = l.length) (h : w.ownsRow base 44 2 v l.length (cellsB (l.map Prod.fst) us)) (h2 : ∀ i (hi : i < l.length), ∃ u, us[i]? = some u ∧ ElB w base u l[i].2) (hB : base ≤ w.heap.size) {u : Value} {n : Int} {r : List Int} (hu : ElB w base u r)
    (h' : w'.ownsRow base 44 2 v' (l.length + 1) (cellsB (l.map Prod.fst) us ++ [.int .i64 n, u])) (hg : w.grownBy w' v.ownBlock) : OwnBlbs w' base v' (l ++ [(n, r)]) := by
  refine ⟨us ++ [u], by simp [hl], ?_, fun i hi => ?_⟩
  · rw [List.map_append, List.length_append]
    show w'.ownsRow base _ 2 v' (l.length + 1) (cellsB (l.map Prod.fst ++ [n]) (us ++ [u]))
    rw [cellsB_snoc _ _ _ _ (by simp [hl])]
    exact h'
  · rcases Nat.lt_or_ge i l.length with h3 | h3
    · obtain ⟨u', hu', hx⟩ := h2 i h3
      refine ⟨u', by rw [List.getElem?_append_left (by omega)]; exact hu', ?_⟩
      rw [List.getElem_append_left h3]
      exact elB_grownT hx h (by decide) hg hB
    · have : i = l.length := by simp at hi; omega
      subst this
      refine ⟨u, by rw [← hl]; simp, ?_⟩
      simpa using elB_grownT hu h (by decide) hg hB
end
end Go.Proofs.YtfinfkodjkfibaaDoor
