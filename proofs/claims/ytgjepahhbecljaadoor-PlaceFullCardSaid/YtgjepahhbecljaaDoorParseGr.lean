/- Plain facts on a text's parts: how long they are, which kind a word is. No program in sight.
What both Parse functions use: the row of parts read, a capability's fields written inside a drawn region, the two results. No condition. -/
import Derived.Test.YtgjepahhbecljaaDoorCapsLaw
import Derived.Test.YtgjepahhbecljaaDoorBy32
import Derived.Test.YtgjepahhbecljaaDoorSplit
import Derived.Test.YtgjepahhbecljaaDoorPrint
import Derived.Test.YtgjepahhbecljaaDoorCapReg
import Derived.Laws.ResultCell
import Derived.Laws.Cover3
namespace Go.Proofs.YtgjepahhbecljaaDoor
open Go Go.RowKit

theorem splitF_len : ∀ (s : List Int), ∀ p ∈ splitF s, p.length ≤ s.length
  | [], p, hp => by simp [splitF] at hp; subst hp; simp
  | c :: cs, p, hp => by
    have ih := splitF_len cs
    rw [splitF] at hp
    split at hp
    · rcases List.mem_cons.1 hp with rfl | hp
      · simp
      · have := ih p hp; simp; omega
    · split at hp
      · rw [List.mem_singleton] at hp; subst hp; simp
      · next q qs he =>
        rcases List.mem_cons.1 hp with rfl | hp
        · have := ih q (by rw [he]; simp); simp; omega
        · have := ih p (by rw [he]; simp [hp]); simp; omega
theorem splitF_bytes : ∀ (s : List Int), Bytes s → ∀ p ∈ splitF s, Bytes p
  | [], _, p, hp => by simp [splitF] at hp; subst hp; intro x hx; cases hx
  | c :: cs, hb, p, hp => by
    have hc : 0 ≤ c ∧ c < 256 := hb c (by simp)
    have ih := splitF_bytes cs (fun x hx => hb x (by simp [hx]))
    rw [splitF] at hp
    split at hp
    · rcases List.mem_cons.1 hp with rfl | hp
      · intro x hx; cases hx
      · exact ih p hp
    · split at hp
      · rw [List.mem_singleton] at hp; subst hp; intro x hx; rw [List.mem_singleton] at hx; subst hx; exact hc
      · next q qs he =>
        rcases List.mem_cons.1 hp with rfl | hp
        · intro x hx
          rcases List.mem_cons.1 hx with rfl | hx
          · exact hc
          · exact ih q (by rw [he]; simp) x hx
        · exact ih p (by rw [he]; simp [hp])
theorem splitF_count : ∀ (s : List Int), 0 < (splitF s).length ∧ (splitF s).length ≤ s.length + 1
  | [] => by simp [splitF]
  | c :: cs => by
    have ih := splitF_count cs
    rw [splitF]
    split
    · simp; omega
    · split
      · simp
      · next q qs he => rw [he] at ih; simp at ih ⊢; omega
theorem part_len (s : List Int) (k : Nat) : ((splitF s).getD k []).length ≤ s.length := by
  rcases Nat.lt_or_ge k (splitF s).length with h | h
  · rw [List.getD_eq_getElem?_getD, List.getElem?_eq_getElem h]; exact splitF_len s _ (List.getElem_mem h)
  · rw [List.getD_eq_getElem?_getD, List.getElem?_eq_none h]; simp
theorem part_bytes {s : List Int} (hb : Bytes s) (k : Nat) : Bytes ((splitF s).getD k []) := by
  rcases Nat.lt_or_ge k (splitF s).length with h | h
  · rw [List.getD_eq_getElem?_getD, List.getElem?_eq_getElem h]; exact splitF_bytes s hb _ (List.getElem_mem h)
  · rw [List.getD_eq_getElem?_getD, List.getElem?_eq_none h]; intro x hx; cases hx
theorem by32_len : ∀ (ks : List Nat) (g m : Nat), (by32 g m ks).length ≤ ks.length
  | [], g, m => by rw [by32]; simp
  | k :: ks, g, m => by
    rcases Nat.lt_or_ge (m + 5) 8 with h | h
    · rw [by32_low g m k ks h]; have := by32_len ks (g * 32 + k) (m + 5); simp; omega
    · rw [by32_high g m k ks h]; have := by32_len ks ((g * 32 + k) % 2 ^ (m - 3)) (m - 3); simp; omega
theorem vals_len : ∀ (s : List Int) (ks : List Nat), vals s = some ks → ks.length = s.length
  | [], ks, h => by rw [vals] at h; cases h; rfl
  | c :: s, ks, h => by
    rw [vals] at h
    obtain ⟨k, hk, h⟩ := Option.bind_eq_some_iff.1 h
    obtain ⟨js, hj, rfl⟩ := Option.map_eq_some_iff.1 h
    have := vals_len s js hj
    simp [this]
theorem bytes32_len {s b : List Int} (h : bytes32F s = some b) : b.length ≤ s.length := by
  unfold bytes32F at h
  obtain ⟨ks, hk, h⟩ := Option.bind_eq_some_iff.1 h
  split at h
  · cases h; have := by32_len ks 0 0; have := vals_len s ks hk; omega
  · cases h

/-- Which kind has this word, of the first k ones? -/
def kindN (p : List Int) : Nat → Int
  | 0 => 0
  | k + 1 => if 0 < k ∧ wordL k = p then (k : Int) else kindN p k
theorem kindN_all (p : List Int) : kindN p 10 = kindF p := by
  by_cases h1 : p = wordL 1
  · subst h1; decide
  by_cases h2 : p = wordL 2
  · subst h2; decide
  by_cases h3 : p = wordL 3
  · subst h3; decide
  by_cases h4 : p = wordL 4
  · subst h4; decide
  by_cases h5 : p = wordL 5
  · subst h5; decide
  by_cases h6 : p = wordL 6
  · subst h6; decide
  by_cases h7 : p = wordL 7
  · subst h7; decide
  by_cases h8 : p = wordL 8
  · subst h8; decide
  by_cases h9 : p = wordL 9
  · subst h9; decide
  have e : ∀ k, wordL k = p ↔ p = wordL k := fun k => eq_comm
  simp only [kindN, kindF, e, h1, h2, h3, h4, h5, h6, h7, h8, h9, and_false, if_false]
  simp
theorem kindN_bound (p : List Int) : ∀ k, 0 ≤ kindN p k ∧ kindN p k ≤ k
  | 0 => by simp [kindN]
  | k + 1 => by
    have := kindN_bound p k
    rw [kindN]
    split <;> omega

section
variable {s : List Int} {L : List (List Int)} (hL : splitF s = L)
include hL
theorem cand_short (h : L.length < 3) : candP s = none := by
  subst hL; unfold candP; simp only; rw [if_pos h]
theorem cand_no2 (h : 3 ≤ L.length) (hb : bytes32F (L.getD 2 []) = none) : candP s = none := by
  subst hL; unfold candP; simp only; rw [if_neg (by omega), hb]; rfl
theorem cand_lit {a : List Int} (h : 3 ≤ L.length) (hb : bytes32F (L.getD 2 []) = some a) (hk : kindF (L.getD 1 []) = 3) : candP s = some ⟨3, zeros 16, zeros 32, 0, 0, 0, a⟩ := by
  subst hL; unfold candP; simp only; rw [if_neg (by omega), hb, Option.bind_some, if_pos hk]
theorem cand_bare {a : List Int} (h : 3 ≤ L.length) (hb : bytes32F (L.getD 2 []) = some a) (hk : ¬ kindF (L.getD 1 []) = 3) (h4 : ¬ 3 < L.length) : candP s = some ⟨kindF (L.getD 1 []), zeros 16, zeros 32, 0, 0, 0, []⟩ := by
  subst hL; unfold candP; simp only; rw [if_neg (by omega), hb, Option.bind_some, if_neg hk, if_neg (by omega)]
theorem cand_no3 {a : List Int} (h : 3 < L.length) (hb : bytes32F (L.getD 2 []) = some a) (hk : ¬ kindF (L.getD 1 []) = 3) (h4 : bytes32F (L.getD 3 []) = none) : candP s = none := by
  subst hL; unfold candP; simp only; rw [if_neg (by omega), hb, Option.bind_some, if_neg hk, if_pos (by omega), h4]; rfl
theorem cand_len {a b : List Int} (h : 3 < L.length) (hb : bytes32F (L.getD 2 []) = some a) (hk : ¬ kindF (L.getD 1 []) = 3) (h4 : bytes32F (L.getD 3 []) = some b) (h5 : ¬ (a.length = 16 ∧ b.length = 32)) : candP s = none := by
  subst hL; unfold candP; simp only; rw [if_neg (by omega), hb, Option.bind_some, if_neg hk, if_pos (by omega), h4, Option.bind_some, if_neg h5]
theorem cand_slot {a b : List Int} (h : 3 < L.length) (hb : bytes32F (L.getD 2 []) = some a) (hk : ¬ kindF (L.getD 1 []) = 3) (h4 : bytes32F (L.getD 3 []) = some b) (h5 : a.length = 16 ∧ b.length = 32) (h7 : ¬ L.length = 7) :
    candP s = some ⟨kindF (L.getD 1 []), a, b, 0, 0, 0, []⟩ := by
  subst hL; unfold candP; simp only; rw [if_neg (by omega), hb, Option.bind_some, if_neg hk, if_pos (by omega), h4, Option.bind_some, if_pos h5, if_neg h7]
theorem cand_file {a b : List Int} (hb : bytes32F (L.getD 2 []) = some a) (hk : ¬ kindF (L.getD 1 []) = 3) (h4 : bytes32F (L.getD 3 []) = some b) (h5 : a.length = 16 ∧ b.length = 32) (h7 : L.length = 7) :
    candP s = some ⟨kindF (L.getD 1 []), a, b, numP (L.getD 4 []), numP (L.getD 5 []), numP (L.getD 6 []), []⟩ := by
  subst hL; unfold candP; simp only; rw [if_neg (by omega), hb, Option.bind_some, if_neg hk, if_pos (by omega), h4, Option.bind_some, if_pos h5, if_pos h7]
end
theorem parse_none {s : List Int} (h : candP s = none) : parseF s = none := by unfold parseF pick; rw [h]; rfl
theorem parse_some {s : List Int} {c : CapD} (h : candP s = some c) (hv : c.Valid) (hp : printF c = s) : parseF s = some c := by unfold parseF pick; rw [h, Option.bind_some, if_pos ⟨hv, hp⟩]
theorem parse_not {s : List Int} {c : CapD} (h : candP s = some c) (hn : ¬ (c.Valid ∧ printF c = s)) : parseF s = none := by unfold parseF pick; rw [h, Option.bind_some, if_neg hn]
theorem wordS_eq {p : List Int} (hb : Bytes p) {k : Nat} (hk : k < 10) : strOfNums (wordL k) = strOfNums p ↔ wordL k = p := strOf_inj (fun x hx => (wordL_ok ⟨k, hk⟩ x hx).2) hb
end Go.Proofs.YtgjepahhbecljaaDoor

namespace Go.Proofs.YtgjepahhbecljaaDoor
open Go Go.RowKit

/-- What Parse answers. -/
def ParsePost (w : World) (xs : List Int) (e : Ending) (w' : World) : Prop :=
  (∃ (c : CapD) (l : Value), parseF xs = some c ∧ e = .returned (.tuple #[capV c l, .int .i64 0]) ∧ RowB w' w.heap.size l c.lit ∧ Below w.heap.size w w') ∨
  (parseF xs = none ∧ e = .returned (.tuple #[capV CapD.none_ (.slice none 0 0), .int .i64 2]) ∧ Below w.heap.size w w')

/-- The parts in a row: part k in its cell. -/
def Parts (w : World) (B : Nat) (v : Value) (L : List (List Int)) : Prop := Rd w B 1 v L.length (L.map strV)
theorem Parts.open_ {w : World} {B : Nat} {v : Value} {L : List (List Int)} (h : Parts w B v L) (h0 : 0 < L.length) :
    ∃ b o c, v = .slice (some ⟨b, o, none⟩) L.length c ∧ L.length ≤ c ∧ b < B := by
  obtain ⟨A, c, rfl, h1, h2, h3, h4⟩ := h
  obtain ⟨b, o, rfl, hb, _⟩ := h4 h0
  exact ⟨b, o, c, rfl, h1, hb⟩
theorem Parts.cell {w : World} {B b o c : Nat} {L : List (List Int)} (h : Parts w B (.slice (some ⟨b, o, none⟩) L.length c) L) (k : Nat) (hk : k < L.length) :
    w.cell? ⟨b, o + k, none⟩ = some (.string (strOfNums (L.getD k []))) := by
  obtain ⟨A, c', he, h1, h2, h3, h4⟩ := h
  injection he with e1 e2 e3
  subst e1
  obtain ⟨b', o', hh, hb, hc⟩ := h4 (by omega)
  injection hh with hh
  injection hh with e4 e5 e6
  subst e4 e5
  refine hc k _ ?_
  rw [List.getElem?_map, List.getElem?_eq_getElem hk, List.getD_eq_getElem?_getD, List.getElem?_eq_getElem hk]
  rfl
theorem Parts.below {w w' : World} {B : Nat} {v : Value} {L : List (List Int)} (h : Parts w B v L) (hb : Below B w w') : Parts w' B v L := Rd.belowM h hb (Nat.le_refl _)

section
variable {o : Oper} {a : Act} {w : World} {K : Act → World → Prop} {Q : Exit → Act → World → Prop} {g : Nat} {c : CapD} {lit : Value}
theorem wp_cap_putD (hd : o.dst = none) (x y : Operand) (ho : o.op = .store 3 x y) (off : Nat) (hx : a.eval x = .pointer (some ⟨g, off, none⟩)) (hB : CapB w g c lit) (n : Int) (hy : a.eval y = .int .i64 n) (c' : CapD) (hn : capPut c n off = some c')
    (h : ∀ w', CapB w' g c' lit → w.grownBy w' (some g) → w'.heap.size = w.heap.size → K (a.put none undef) w') : o.wp Tryd.prog a w K Q := by
  have hlt : off < 53 := by
    unfold capPut at hn
    split at hn <;> first | omega | cases hn
  have hcell : w.cell? ⟨g, off, none⟩ = some ((capCells c lit)[off]'(by rw [cc_len lit hB.keyL hB.fpL]; exact hlt)) := by rw [hB.blk.cell]; exact List.getElem?_eq_getElem _
  have hg := grown_setCells (g := g) [Value.int .i64 n] w off
  refine wp_store_one _ x y ho g off hx _ hy (by rw [hcell]; rfl) (hB.blk.frozen _) rfl size_int ?_
  rw [hd]
  obtain ⟨e1, e2⟩ := capPut_len hn
  refine h _ ⟨?_, by rw [e1]; exact hB.keyL, by rw [e2]; exact hB.fpL, hB.one⟩ hg.1 hg.2
  have := hB.blk.set_ off (.int .i64 n)
  rw [cc_put hB.keyL hB.fpL hn] at this
  exact this
theorem wp_cap_putKeyD (hd : o.dst = none) (x y : Operand) (ho : o.op = .store 23 x y) (hx : a.eval x = .pointer (some ⟨g, 1, none⟩)) (hB : CapB w g c lit) (k : List Int) (hy : a.eval y = .agg (u8s k).toArray) (hk : k.length = 16)
    (h : ∀ w', CapB w' g { c with key := k } lit → w.grownBy w' (some g) → w'.heap.size = w.heap.size → K (a.put none undef) w') : o.wp Tryd.prog a w K Q :=
  wp_store_blk _ x y ho g 1 (u8s k) hx hy _ _ hB.blk (by rw [cc_len lit hB.keyL hB.fpL, u8s_len]; omega) (by rw [u8s_len, hk]; exact size_key) (u8s_one _)
    fun w' h1 h2 h3 => by rw [hd]; exact h w' ⟨by rw [cc_putKey hB.keyL k hk] at h1; exact h1, hk, hB.fpL, hB.one⟩ h2 h3
theorem wp_cap_putFpD (hd : o.dst = none) (x y : Operand) (ho : o.op = .store 25 x y) (hx : a.eval x = .pointer (some ⟨g, 17, none⟩)) (hB : CapB w g c lit) (k : List Int) (hy : a.eval y = .agg (u8s k).toArray) (hk : k.length = 32)
    (h : ∀ w', CapB w' g { c with fp := k } lit → w.grownBy w' (some g) → w'.heap.size = w.heap.size → K (a.put none undef) w') : o.wp Tryd.prog a w K Q :=
  wp_store_blk _ x y ho g 17 (u8s k) hx hy _ _ hB.blk (by rw [cc_len lit hB.keyL hB.fpL, u8s_len]; omega) (by rw [u8s_len, hk]; exact size_hash) (u8s_one _)
    fun w' h1 h2 h3 => by rw [hd]; exact h w' ⟨by rw [cc_putFp hB.keyL hB.fpL k hk] at h1; exact h1, hB.keyL, hk, hB.one⟩ h2 h3
end
section
variable {o : Oper} {a : Act} {w : World}
theorem exec_arrayAt (arr : TypeId) (x : Operand) (ho : o.op = .sliceToArrayPointer arr x) (e : TypeId) (n : Nat) (ad : Option Addr) (l c : Nat) (hx : a.eval x = .slice ad l c) (ht : Tryd.prog.underlying arr = some (.array n e)) (hn : n ≤ l) :
    (execOp a.eval o).run Tryd.prog w = .ok (.value (.pointer ad)) w := by
  unfold execOp
  simp only [ho, hx, Sem.run_bind, run_arrayAt w arr e n ad l c ht hn, Result.andThen_ok, Sem.run_pure]
theorem exec_load_arr (ty : TypeId) (x : Operand) (ho : o.op = .load ty x) (g off : Nat) (hx : a.eval x = .pointer (some ⟨g, off, none⟩)) (d : TypeDesc) (cs : List Value) (hr : w.rangeAt g off cs) (hu : Tryd.prog.underlying ty = some d)
    (hd : d.isRow = true) (hi : (Tryd.prog.info? ty).map (·.size) = some cs.length) : (execOp a.eval o).run Tryd.prog w = .ok (.value (.agg cs.toArray)) w := by
  unfold execOp
  simp only [ho, hx, Instr.loadAt, Instr.sureAddr, Sem.run_bind, Sem.run_pure, Result.andThen_ok, run_loadVar_mid w g off _ _ _ hr hu hd hi]
theorem exec_index_str (x : Operand) (k : Int) (ho : o.op = .indexAddr 70 x (.const (.int .i64 k))) (b of n c j : Nat) (hx : a.eval x = .slice (some ⟨b, of, none⟩) n c) (hj : k = (j : Int)) (hn : j < n) :
    (execOp a.eval o).run Tryd.prog w = .ok (.value (.pointer (some ⟨b, of + j, none⟩))) w := by
  subst hj
  have hi : a.eval (.const (.int .i64 (j : Int))) = .int .i64 (j : Int) := rfl
  unfold execOp
  simp only [ho, hx, hi]
  have h1 : (j : Int) < (n : Int) := by omega
  have h0 : (0 : Int) ≤ (j : Int) := by omega
  go_simp
theorem exec_eql_str (x y : Operand) (ho : o.op = .binOp .eql 9 x y 9) (s t : ByteArray) (hx : a.eval x = .string s) (hy : a.eval y = .string t) (q : Bool) (hq : (s.toList == t.toList) = q) : (execOp a.eval o).run Tryd.prog w = .ok (.value (.bool q)) w := by
  subst hq
  unfold execOp
  simp only [ho, hx, hy]
  go_simp
theorem exec_int_val (x : Operand) (ho : o.op = .load 9 x) (b off : Nat) (hx : a.eval x = .pointer (some ⟨b, off, none⟩)) (t : ByteArray) (hc : w.cell? ⟨b, off, none⟩ = some (.string t)) :
    (execOp a.eval o).run Tryd.prog w = .ok (.value (.string t)) w := exec_load_one _ x ho b off hx _ Tryd.underlying9 rfl _ hc
end
theorem results_cap_err {fn : Func} {p u : Tmp} (h : fn.results = #[.cell p 28, .tmp u]) (tmps : Array Value) (w : World) (g : Nat) (c : CapD) (lit : Value)
    (hp : tmps.getD p undef = .pointer (some ⟨g, 0, none⟩)) (hB : CapB w g c lit) (v : Value) (hv : tmps.getD u undef = v) : (results fn tmps).run Tryd.prog w = .ok (.tuple #[capV c lit, v]) w := by
  rw [results_cell_tmp h, hp, hv]
  have := run_loadVar_row w g 28 28 (capCells c lit).toArray (0, 0) _ hB.blk Tryd.underlying28 rfl (by rw [List.size_toArray, cc_len _ hB.keyL hB.fpL]; exact size_cap)
  simp only [asAddr, Sem.run_pure, Result.andThen_ok, this]
  rfl
theorem RowB.ptr {w : World} {base : Nat} {A : Option Addr} {n c : Nat} {xs : List Int} (h : RowB w base (.slice A n c) xs) (h0 : 0 < xs.length) : ∃ b o, A = some ⟨b, o, none⟩ := by
  obtain ⟨A', c', he, _, _, _, h4⟩ := h.reads
  injection he with e1 e2 e3
  subst e1
  obtain ⟨b, o, rfl, _⟩ := h4 h0
  exact ⟨b, o, rfl⟩
theorem RowB.off {w w' : World} {base g : Nat} {v : Value} {xs : List Int} (h : RowB w base v xs) (hg : w.grownBy w' (some g)) (hlt : g < base) : RowB w' base v xs :=
  h.kept hg (by
    cases hb : v.ownBlock with
    | none => exact .inl rfl
    | some k => exact .inr (by have := (h.base_ k hb).1; intro e; injection e with e; omega))
theorem RowB.one {w : World} {base : Nat} {v : Value} {xs : List Int} (h : RowB w base v xs) : v.oneCell' = true := by
  obtain ⟨A, c, rfl⟩ := h.shape
  rfl
/-- A row of bytes read as an array's cells. -/
theorem row_range {w : World} {base b off c n : Nat} {xs : List Int} (h : RowB w base (.slice (some ⟨b, off, none⟩) n c) xs) (h0 : 0 < xs.length) : w.rangeAt b off (u8s xs) := by
  obtain ⟨A, c', he, _, _, _, h4⟩ := h.reads
  injection he with e1 e2 e3
  subst e1
  obtain ⟨b', o', hh, hb, hc⟩ := h4 h0
  injection hh with hh
  injection hh with e4 e5 e6
  subst e4 e5
  exact hc
end Go.Proofs.YtgjepahhbecljaaDoor
