/- code.Base32 of bytes: their letters. Condition: at most 2^40 bytes. -/
import Derived.Test.YtfinfkodjkfibaaDoorStr
import Derived.Test.YtfinfkodjkfibaaDoorB32Law
namespace Go.Proofs.YtfinfkodjkfibaaDoor
open Go Go.RowKit

def lettersS : ByteArray := { data := #[97, 98, 99, 100, 101, 102, 103, 104, 105, 106, 107, 108, 109, 110, 111, 112, 113, 114, 115, 116, 117, 118, 119, 120, 121, 122, 50, 51, 52, 53, 54, 55] }
theorem letters_at : ∀ k : Fin 32, (lettersS[k.val]'(by have : lettersS.size = 32 := rfl; omega)).toNat = ltr k.val := by decide
theorem run_letter (w : World) (k : Nat) (h : k < 32) : (Instr.index 9 (.string lettersS) (.int .i64 (k : Int))).run Tryd.prog w = .ok (.int .u8 (ltr k)) w := by
  have hs : lettersS.size = 32 := rfl
  rw [run_index_string w 9 lettersS .i64 (k : Int) Tryd.underlying9, dif_pos ⟨by omega, by rw [hs]; omega⟩]
  have := letters_at ⟨k, h⟩
  simp only [Int.toNat_natCast]
  rw [this]
/-- A letter by its number. -/
theorem wpList_letter {ops : Array Oper} {rest : List Oper} {o : Oper} {a : Act} {w : World} {Q : Exit → Act → World → Prop} (hgd : o.guard = none) (x : Operand) (ho : o.op = .index 9 (.const (.string lettersS)) x) (z : Int) (hx : a.eval x = .int .i64 z) (k : Nat) (hz : z = (k : Int)) (hk : k < 32)
    (h : wpList Tryd.prog ops Q rest (a.put o.dst (.int .u8 (ltr k))) w) : wpList Tryd.prog ops Q (o :: rest) a w :=
  wpList_plain hgd fun _ hK => by
    subst hz
    have hr := run_letter w k hk
    unfold Oper.wp execOp
    have he : a.eval (.const (.string lettersS)) = .string lettersS := rfl
    simp only [ho, hx, he, Sem.run_bind, hr, Result.andThen_ok, Sem.run_pure]
    exact hK _ _ h
/-- A literal of one byte. -/
theorem wpList_lit1 {ops : Array Oper} {rest : List Oper} {o : Oper} {a : Act} {w : World} {Q : Exit → Act → World → Prop} (hgd : o.guard = none) (x : Operand) (ho : o.op = .buildSlice 26 1 #[(0, x)]) (z : Int) (hx : a.eval x = .int .u8 z)
    (h : ∀ g w', Blk w' g 5 (u8s [z]) → w.heap.size ≤ g → Below w.heap.size w w' → wpList Tryd.prog ops Q rest (a.put o.dst (.slice (some ⟨g, 0, none⟩) 1 1)) w') : wpList Tryd.prog ops Q (o :: rest) a w := by
  obtain ⟨i, zz, ht, hi, hz, hsize, hby, hzs, _, _⟩ := el_u8
  have hz0 := u8_zero hi hz
  subst hz0
  refine wpList_buildSlice hgd 26 5 1 _ ho #[.int .u8 z] i (.int .u8 0) ht hi hz (by rw [hsize]; omega) (by rw [hsize]; omega) ?_ (h _ _ (Blk.new w 5 (u8s [z])) (Nat.le_refl _) ((Below.refl _ _).alloc (Nat.le_refl _) _))
  have e : (#[(0, x)].map fun (p : Nat × Operand) => (p.1, a.eval p.2)).toList = ([Value.int IntKind.u8 z].zipIdx 0).map fun x => (x.2, x.1) := by simp [hx]
  rw [e, hsize]
  exact Great.fill_flat _ _ (fun v hv => by simp at hv; subst hv; rfl) (by simp)

theorem wpList_lit1v {ops : Array Oper} {rest : List Oper} {o : Oper} {a : Act} {w : World} {Q : Exit → Act → World → Prop} (hgd : o.guard = none) (x : Operand) (ho : o.op = .buildSlice 26 1 #[(0, x)]) (z : Int) (hx : a.eval x = .int .u8 z) (z' : Int) (hz : z = z')
    (h : ∀ g w', Blk w' g 5 (u8s [z']) → w.heap.size ≤ g → Below w.heap.size w w' → wpList Tryd.prog ops Q rest (a.put o.dst (.slice (some ⟨g, 0, none⟩) 1 1)) w') : wpList Tryd.prog ops Q (o :: rest) a w :=
  wpList_lit1 hgd x ho z hx (by rw [hz]; exact h)
theorem Bytes.at_ {xs : List Int} (h : Bytes xs) (i : Nat) : 0 ≤ xs.getD i 0 ∧ xs.getD i 0 < 256 := by
  rcases Nat.lt_or_ge i xs.length with hi | hi
  · rw [getD_el' _ _ hi]; exact h.get i hi
  · rw [List.getD_eq_getElem?_getD, List.getElem?_eq_none hi]; simp
theorem em2_step (H N : Nat) (h1 : 5 ≤ N) (h2 : N ≤ 12) : em 2 H N = ltr (H / 2 ^ (N - 5) % 32) :: em 2 H (N - 5) := by
  rw [em_two, if_pos h1, em_two]
  by_cases h : 10 ≤ N
  · rw [if_pos h, if_pos (by omega), if_neg (by omega), show N - 5 - 5 = N - 10 by omega]
  · rw [if_neg h, if_neg (by omega)]
theorem em2_end (H N : Nat) (h : N < 5) : em 2 H N = [] := by rw [em_two, if_neg (by omega)]

theorem letter_and (H k : Nat) (hH : H < 4096) {z : Int} (hz : z = bits .and .i64 ((H / 2 ^ k : Nat) : Int) 31) : z = ((H / 2 ^ k % 32 : Nat) : Int) := by
  have h : H / 2 ^ k ≤ H := Nat.div_le_self _ _
  have := and_low (H / 2 ^ k) 5 (by omega) (by omega)
  rw [hz]
  simpa using this
end Go.Proofs.YtfinfkodjkfibaaDoor
