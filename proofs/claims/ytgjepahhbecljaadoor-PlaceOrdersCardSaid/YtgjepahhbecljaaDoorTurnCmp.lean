/- A row of turns (a server and its hash), the call's own: 33 cells each. No condition.
bytes.Compare: rows of bytes compared from the first on. No condition. -/
import Derived.Test.YtgjepahhbecljaaDoorHeapLaws
import Derived.Test.YtgjepahhbecljaaDoorKeep
import Derived.Test.YtgjepahhbecljaaDoorCells
import Derived.Lib.Bytealg
namespace Go.Proofs.YtgjepahhbecljaaDoor
open Go Go.RowKit

/-- A turn's cells. -/
def turnC (x : Heap.T) : List Value := .int .i64 x.1 :: u8s x.2
def turnsC (l : List Heap.T) : List Value := l.flatMap turnC
/-- Hashes have 32 bytes. -/
def WfT (l : List Heap.T) : Prop := ∀ x ∈ l, x.2.length = 32 ∧ Bytes x.2
theorem turnC_len {x : Heap.T} (h : x.2.length = 32) : (turnC x).length = 33 := by unfold turnC; rw [List.length_cons, u8s_len, h]
theorem turnsC_len : ∀ {l : List Heap.T}, WfT l → (turnsC l).length = l.length * 33
  | [], _ => rfl
  | x :: l, h => by
    have ih := turnsC_len (l := l) fun y hy => h y (List.mem_cons_of_mem _ hy)
    show (turnC x ++ turnsC l).length = _
    rw [List.length_append, turnC_len (h x List.mem_cons_self).1, ih, List.length_cons]
    omega
theorem turnsC_get : ∀ {l : List Heap.T}, WfT l → ∀ i (hi : i < l.length) j, j < 33 → (turnsC l)[i * 33 + j]? = (turnC l[i])[j]?
  | x :: l, h, 0, _, j, hj => by
    show (turnC x ++ turnsC l)[0 * 33 + j]? = (turnC x)[j]?
    rw [Nat.zero_mul, Nat.zero_add, List.getElem?_append_left (by rw [turnC_len (h x List.mem_cons_self).1]; exact hj)]
  | x :: l, h, i + 1, hi, j, hj => by
    have hl : i < l.length := by simpa using hi
    have ih := turnsC_get (l := l) (fun y hy => h y (List.mem_cons_of_mem _ hy)) i hl j hj
    show (turnC x ++ turnsC l)[(i + 1) * 33 + j]? = (turnC l[i])[j]?
    rw [List.getElem?_append_right (by rw [turnC_len (h x List.mem_cons_self).1]; omega), turnC_len (h x List.mem_cons_self).1, show (i + 1) * 33 + j - 33 = i * 33 + j by omega, ih]
theorem WfT.set {l : List Heap.T} (h : WfT l) (i : Nat) {x : Heap.T} (hx : x.2.length = 32 ∧ Bytes x.2) : WfT (l.set i x) := fun y hy => by
  rcases List.mem_or_eq_of_mem_set hy with h1 | rfl
  · exact h y h1
  · exact hx
/-- One turn written into the row. -/
theorem turnsC_set {l : List Heap.T} (h : WfT l) (i : Nat) (hi : i < l.length) {x : Heap.T} (hx : x.2.length = 32 ∧ Bytes x.2) : lset (turnsC l) (i * 33) (turnC x) = turnsC (l.set i x) := by
  have hl := turnsC_len h
  have hl2 := turnsC_len (h.set i hx)
  rw [List.length_set] at hl2
  refine List.ext_getElem? fun k => ?_
  rw [lset_get _ _ _ _ (by rw [turnC_len hx.1, hl]; omega), turnC_len hx.1]
  by_cases hk : k < l.length * 33
  · obtain ⟨q, j, hj, rfl⟩ : ∃ q j, j < 33 ∧ k = q * 33 + j := ⟨k / 33, k % 33, by omega, by omega⟩
    have hq : q < l.length := by omega
    rw [turnsC_get (h.set i hx) q (by rw [List.length_set]; exact hq) j hj]
    by_cases e : q = i
    · subst e
      rw [if_pos (by omega), Nat.add_sub_cancel_left, List.getElem_set_self]
    · rw [if_neg (by omega), turnsC_get h q hq j hj, List.getElem_set_ne (Ne.symm e)]
  · rw [if_neg (by omega), List.getElem?_eq_none (by omega), List.getElem?_eq_none (by omega)]
/-- A row of turns of the call's own. -/
def RowT (w : World) (base : Nat) (v : Value) (l : List Heap.T) : Prop := w.ownsRow base 84 33 v l.length (turnsC l) ∧ WfT l
theorem RowT.nil_ (w : World) (base : Nat) : RowT w base (.slice none 0 0) [] := ⟨World.ownsRow_nil _ _ _ _, fun x hx => by cases hx⟩
theorem RowT.keptB {w w' : World} {base : Nat} {v : Value} {l : List Heap.T} (h : RowT w base v l) (hb : Below w.heap.size w w') : RowT w' base v l := ⟨own_keptB h.1 hb, h.2⟩
theorem RowT.shape {w : World} {base : Nat} {v : Value} {l : List Heap.T} (h : RowT w base v l) : ∃ A c, v = .slice A l.length c := own_shape h.1
/-- Where a turn lies. -/
theorem RowT.open_ {w : World} {base : Nat} {v : Value} {l : List Heap.T} (h : RowT w base v l) (h0 : 0 < l.length) :
    ∃ g cap, v = .slice (some ⟨g, 0, none⟩) l.length cap ∧ base ≤ g ∧ g < w.heap.size ∧ l.length ≤ cap ∧ cap ≤ maxLen ∧ ∀ i (hi : i < l.length) j u, (turnC l[i])[j]? = some u → w.cell? ⟨g, i * 33 + j, none⟩ = some u := by
  obtain ⟨⟨hl, hv⟩, hw⟩ := h
  rcases hv with ⟨rfl, h1⟩ | ⟨g, cap, cur, rfl, hbg, hB, hn, hm, hs, ht⟩
  · omega
  · refine ⟨g, cap, rfl, hbg, ?_, hn, hm, fun i hi j u hu => ?_⟩
    · have := (Array.getElem?_eq_some_iff.1 hB).1; exact this
    · have hj : j < 33 := by
        have := (List.getElem?_eq_some_iff.1 hu).1
        rwa [turnC_len (hw _ (List.getElem_mem hi)).1] at this
      have hg := turnsC_get hw i hi j hj
      rw [hu, ← ht, List.getElem?_take_of_lt (by omega)] at hg
      simp only [World.cell?, hB]
      simpa using hg
end Go.Proofs.YtgjepahhbecljaaDoor

namespace Go.Proofs.YtgjepahhbecljaaDoor
open Go Go.RowKit

def toU8 (xs : List Int) : List UInt8 := xs.map fun x => x.toNat.toUInt8
theorem run_loadBytes {P : Program} (w : World) (b : Nat) : ∀ (xs : List Int) (o : Nat) (acc : ByteArray), (∀ j x, xs[j]? = some x → w.cell? ⟨b, o + j, none⟩ = some (.int .u8 x)) →
    (Extern.Bytes.loadBytes ⟨b, o, none⟩ xs.length acc).run P w = .ok ⟨(acc.data.toList ++ toU8 xs).toArray⟩ w
  | [], o, acc, _ => by
    simp [Extern.Bytes.loadBytes, toU8]
  | x :: xs, o, acc, h => by
    have h0 : w.cell? ⟨b, o, none⟩ = some (.int .u8 x) := by simpa using h 0 x rfl
    have ih := run_loadBytes (P := P) w b xs (o + 1) (acc.push x.toNat.toUInt8) (fun j y hy => by
      have := h (j + 1) y (by simpa using hy)
      rwa [show o + (j + 1) = o + 1 + j by omega] at this)
    rw [List.length_cons, Extern.Bytes.loadBytes]
    have hl : (load ⟨b, o, none⟩).run P w = .ok (.int .u8 x) w := by simp [h0]
    rw [Sem.run_bind, hl, Result.andThen_ok]
    show (Extern.Bytes.loadBytes ((⟨b, o, none⟩ : Addr).add 1) xs.length (acc.push x.toNat.toUInt8)).run P w = _
    rw [Addr.add_lit, ih]
    simp [toU8]
theorem run_bytesOf {P : Program} (w : World) (B : Nat) (v : Value) (xs : List Int) (h : Bs w B v xs) : (Extern.Bytes.bytesOf v).run P w = .ok ⟨(toU8 xs).toArray⟩ w := by
  obtain ⟨A, c, rfl, h1, h2, h3⟩ := h.open_
  by_cases hp : 0 < xs.length
  · obtain ⟨b, o, rfl, hb, hc⟩ := h3 hp
    have := run_loadBytes (P := P) w b xs o .empty (fun j x hj => hc j x (List.getElem?_eq_some_iff.1 hj).1 (by rw [List.getD_eq_getElem?_getD, hj]; rfl))
    rw [Extern.Bytes.bytesOf, this]
    rfl
  · obtain rfl : xs = [] := List.eq_nil_of_length_eq_zero (by omega)
    rcases A with _ | ad
    · rfl
    · rfl
theorem cmp_toU8 : ∀ (xs ys : List Int), (∀ x ∈ xs, 0 ≤ x ∧ x < 256) → (∀ y ∈ ys, 0 ≤ y ∧ y < 256) → Lib.compareBytes (toU8 xs) (toU8 ys) = Heap.cmpL xs ys
  | [], [], _, _ => rfl
  | [], _ :: _, _, _ => rfl
  | _ :: _, [], _, _ => rfl
  | x :: xs, y :: ys, hx, hy => by
    have h1 := hx x List.mem_cons_self
    have h2 := hy y List.mem_cons_self
    have e1 : x.toNat.toUInt8.toNat = x.toNat := by simp [UInt8.toNat_ofNat]; omega
    have e2 : y.toNat.toUInt8.toNat = y.toNat := by simp [UInt8.toNat_ofNat]; omega
    have l1 : x.toNat.toUInt8 < y.toNat.toUInt8 ↔ x < y := by rw [UInt8.lt_iff_toNat_lt, e1, e2]; omega
    have l2 : y.toNat.toUInt8 < x.toNat.toUInt8 ↔ y < x := by rw [UInt8.lt_iff_toNat_lt, e1, e2]; omega
    have ih := cmp_toU8 xs ys (fun z hz => hx z (List.mem_cons_of_mem _ hz)) (fun z hz => hy z (List.mem_cons_of_mem _ hz))
    show Lib.compareBytes (x.toNat.toUInt8 :: toU8 xs) (y.toNat.toUInt8 :: toU8 ys) = _
    unfold Lib.compareBytes Heap.cmpL
    simp only [l1, l2, ih]
theorem run_compare {P : Program} (w : World) (B : Nat) (va vb : Value) (xs ys : List Int) (ha : Bs w B va xs) (hb : Bs w B vb ys) (hx : Bytes xs) (hy : Bytes ys) :
    (Extern.BytealgCompare.compare #[va, vb]).run P w = .ok (.int .i64 (Heap.cmpL xs ys)) w := by
  change Sem.run P (do pure (goInt (Extern.BytealgCompare.cmp (← Extern.Bytes.bytesOf va) (← Extern.Bytes.bytesOf vb)))) w = _
  simp only [Sem.run_bind, run_bytesOf w B va xs ha, run_bytesOf w B vb ys hb, Sem.run_pure, Result.andThen]
  rw [Lib.cmp_eq]
  show Result.ok (Value.int .i64 (Lib.compareBytes (toU8 xs) (toU8 ys))) w = _
  rw [cmp_toU8 xs ys hx hy]
set_option maxRecDepth 100000 in
theorem Compare_any (va vb : Value) (xs ys : List Int) (w : World) (B : Nat) (ha : Bs w B va xs) (hb : Bs w B vb ys) (hx : Bytes xs) (hy : Bytes ys) :
    Calls Tryd.prog 135 #[va, vb] w fun e w' => e = .returned (.int .i64 (Heap.cmpL xs ys)) ∧ w = w' := by
  have HR := hide (run_compare (P := Tryd.prog) w B va vb xs ys ha hb hx hy)
  clear ha hb hx hy
  go_enter Tryd.func135, Tryd.ntmps135
  go_wp2_with fail
  rw [run_callFunc_extern Tryd.func136 (by kernel_rfl) (by kernel_rfl) (by kernel_rfl) (e := Extern.BytealgCompare.compare) (by kernel_rfl), HR.out]
  simp only [Result.andThen]
  rw [Oper.upon_value]
  go_wp2_with fail
  go_ret
  exact ⟨rfl, rfl⟩
end Go.Proofs.YtgjepahhbecljaaDoor
