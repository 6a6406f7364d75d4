/- Literals of three and of six rows, in regions that draw their order; how long rows are. No condition. -/
import Derived.Test.YtfinfkodjkfibaaDoorRowsLit
import Derived.Test.YtfinfkodjkfibaaDoorNets
import Derived.Test.YtfinfkodjkfibaaDoorMsgLaws
namespace Go.Proofs.YtfinfkodjkfibaaDoor
open Go Go.RowKit
set_option maxRecDepth 100000
section
variable {o : Oper} {a : Act} {w : World} {K : Act → World → Prop} {Q : Exit → Act → World → Prop}
theorem wp_rows6D (d : Nat) (hd : o.dst = some d) (x0 x1 x2 x3 x4 x5 : Operand) (ho : o.op = .buildSlice 72 6 #[(0, x0), (1, x1), (2, x2), (3, x3), (4, x4), (5, x5)]) (u0 u1 u2 u3 u4 u5 : Value)
    (h0 : a.eval x0 = u0) (h1 : a.eval x1 = u1) (h2 : a.eval x2 = u2) (h3 : a.eval x3 = u3) (h4 : a.eval x4 = u4) (h5 : a.eval x5 = u5)
    (c0 : u0.cells = #[u0]) (c1 : u1.cells = #[u1]) (c2 : u2.cells = #[u2]) (c3 : u3.cells = #[u3]) (c4 : u4.cells = #[u4]) (c5 : u5.cells = #[u5])
    (h : ∀ w', Blk w' w.heap.size 26 [u0, u1, u2, u3, u4, u5] → Below w.heap.size w w' → K (a.put (some d) (.slice (some ⟨w.heap.size, 0, none⟩) 6 6)) w') : o.wp Tryd.prog a w K Q :=
  wp_rows_lit 6 _ ho [u0, u1, u2, u3, u4, u5] rfl (by omega) (by omega) (by simp [h0, h1, h2, h3, h4, h5]) (by intro r hr; simp at hr; rcases hr with rfl | rfl | rfl | rfl | rfl | rfl <;> assumption) (by rw [hd]; exact h)
end
theorem rows_six {w : World} {g : Nat} {t : TypeId} {u0 u1 u2 u3 u4 u5 : Value} {x0 x1 x2 x3 x4 x5 : List Int} (h : Blk w g t [u0, u1, u2, u3, u4, u5]) (h0 : Bs w w.heap.size u0 x0) (h1 : Bs w w.heap.size u1 x1) (h2 : Bs w w.heap.size u2 x2) (h3 : Bs w w.heap.size u3 x3) (h4 : Bs w w.heap.size u4 x4) (h5 : Bs w w.heap.size u5 x5) :
    RowsB w w.heap.size (.slice (some ⟨g, 0, none⟩) 6 6) [x0, x1, x2, x3, x4, x5] :=
  RowsB.of_blk (rows := [x0, x1, x2, x3, x4, x5]) h h.lt rfl (by simp) fun i hi => by
    obtain rfl | rfl | rfl | rfl | rfl | rfl : i = 0 ∨ i = 1 ∨ i = 2 ∨ i = 3 ∨ i = 4 ∨ i = 5 := by simp at hi; omega
    · exact ⟨u0, rfl, h0⟩
    · exact ⟨u1, rfl, h1⟩
    · exact ⟨u2, rfl, h2⟩
    · exact ⟨u3, rfl, h3⟩
    · exact ⟨u4, rfl, h4⟩
    · exact ⟨u5, rfl, h5⟩
theorem netsF_le (l : List (List Int)) (h : ∀ x ∈ l, x.length ≤ 1000000) : (netsF l).length ≤ l.length * 1000021 := by
  have := netsF_len l h _ (Nat.le_refl _)
  rwa [List.take_length] at this
theorem Msg.testR_len (l : List Msg.Tst) : (l.flatMap Msg.testR).length = 3 * l.length := by
  induction l with
  | nil => rfl
  | cons x l ih => rw [List.flatMap_cons, List.length_append, ih, List.length_cons]; simp [Msg.testR]; omega
theorem put1_len (z : Int) : (putF z 1).length ≤ 8 := by
  have h : (putF z 1).length = wid 1 := putN_len _ _
  have := wid_le 1
  omega
theorem put4_len (z : Int) : (putF z 4).length ≤ 8 := by
  have h : (putF z 4).length = wid 4 := putN_len _ _
  have := wid_le 4
  omega
theorem bit_bytes (a : Bool) : Bytes (Msg.bitL a) := fun x hx => by
  unfold Msg.bitL at hx
  obtain rfl := List.mem_singleton.1 hx
  cases a <;> simp
theorem bit_len (a : Bool) : (Msg.bitL a).length = 1 := rfl
end Go.Proofs.YtfinfkodjkfibaaDoor
