/- Slices of bytes: make, reading, rows of the call's own. No condition. -/
import Derived.Test.YtgjepahhbecljaaDoorArrReg
import Derived.Laws.MakeOwn
namespace Go.Proofs.YtgjepahhbecljaaDoor
open Go Go.RowKit

theorem el_u8 : ElemOf Tryd.prog 26 5 1 1 := elem_of Tryd.underlying26 (z := .int .u8 0) (by kernel_rfl) rfl (by decide) (by decide)
theorem made_u8 (n : Nat) : madeCells #[Value.int .u8 0] n = (u8s (List.replicate n 0)).toArray := by
  apply Array.ext
  · simp [madeCells, u8s]
  · intro i h1 h2
    simp [madeCells, u8s, Nat.mod_one]
theorem run_make_bytes (w : World) (kl kc : IntKind) (n c : Nat) (hnc : n ≤ c) (hc : c ≤ 281474976710656) :
    (Instr.makeSlice 26 (.int kl (n : Int)) (.int kc (c : Int))).run Tryd.prog w = .ok (.slice (some ⟨w.heap.size, 0, none⟩) n c) (w.alloc (.cells (u8s (List.replicate c 0)).toArray 5)) := by
  obtain ⟨i, z, ht, hi, hz, hsize, hby, hzs, _, _⟩ := el_u8
  have h := run_make (P := Tryd.prog) w _ _ i z ht hi hz kl kc n c (by omega) (by omega) (by rw [hby]; omega) (by omega)
  rw [h, hsize]
  have hz' : z = .int .u8 0 := by
    have : (Tryd.prog.info? 5).map (·.zero) = some (some (.int .u8 0)) := by kernel_rfl
    rw [hi] at this
    simp [hz] at this
    exact this
  subst hz'
  have := made_u8 c
  simp only [Int.toNat_natCast, Nat.mul_one]
  rw [show (Value.int IntKind.u8 0).cells = #[Value.int .u8 0] from rfl, this]
theorem wpList_make_bytes {ops : Array Oper} {rest : List Oper} {o : Oper} {a : Act} {w : World} {Q : Exit → Act → World → Prop} (hgd : o.guard = none) (x y : Operand) (ho : o.op = .makeSlice 26 x y)
    (kl kc : IntKind) (n c : Nat) (hx : a.eval x = .int kl (n : Int)) (hy : a.eval y = .int kc (c : Int)) (hnc : n ≤ c) (hc : c ≤ 281474976710656)
    (h : ∀ w', Blk w' w.heap.size 5 (u8s (List.replicate c 0)) → Below w.heap.size w w' → w'.heap.size = w.heap.size + 1 → wpList Tryd.prog ops Q rest (a.put o.dst (.slice (some ⟨w.heap.size, 0, none⟩) n c)) w') : wpList Tryd.prog ops Q (o :: rest) a w :=
  wpList_plain hgd fun _ hK => by
    have hr := run_make_bytes w kl kc n c hnc hc
    unfold Oper.wp execOp
    simp only [ho, hx, hy, Sem.run_bind, hr, Result.andThen_ok, Sem.run_pure]
    exact hK _ _ (h _ (Blk.new w _ _) ((Below.refl _ _).alloc (Nat.le_refl _) _) (by simp))

/-- A slice of bytes. -/
def Bs (w : World) (B : Nat) (v : Value) (xs : List Int) : Prop := Rd w B 1 v xs.length (u8s xs)
/-- A row of bytes of the call's own. -/
def Own8 (w : World) (base : Nat) (v : Value) (xs : List Int) : Prop := w.ownsRow base 5 1 v xs.length (u8s xs)
section
variable {w w' : World} {B B' base : Nat} {v : Value} {xs : List Int}
theorem Bs.open_ (h : Bs w B v xs) :
    ∃ (A : Option Addr) (c : Nat), v = .slice A xs.length c ∧ xs.length ≤ c ∧ c ≤ maxLen ∧
    (0 < xs.length → ∃ b o, A = some ⟨b, o, none⟩ ∧ b < B ∧ ∀ j (x : Int), j < xs.length → xs.getD j 0 = x → w.cell? ⟨b, o + j, none⟩ = some (.int .u8 x)) := by
  obtain ⟨A, c, rfl, h1, h2, _, h3⟩ := h
  refine ⟨A, c, rfl, h1, h2, fun hp => ?_⟩
  obtain ⟨b, o, rfl, hb, hc⟩ := h3 hp
  refine ⟨b, o, rfl, hb, fun j x hj hx => hc j _ ?_⟩
  unfold u8s
  rw [List.getElem?_map, List.getElem?_eq_getElem hj, ← hx, List.getD_eq_getElem?_getD, List.getElem?_eq_getElem hj]
  rfl
theorem Bs.below (h : Bs w B v xs) (hb : Below B' w w') (hB : B ≤ B') : Bs w' B v xs := Rd.belowM h hb hB
theorem Bs.more (h : Bs w B v xs) (hB : B ≤ B') : Bs w B' v xs := Rd.more h hB
theorem Bs.nil_ (w : World) (B : Nat) : Bs w B (.slice none 0 0) [] := Rd.nil_ w B 1
theorem Bs.lenM (h : Bs w B v xs) : xs.length ≤ maxLen := Rd.lenM h
theorem Own8.reads (h : Own8 w base v xs) : Bs w w.heap.size v xs := Rd.of_own h
theorem Own8.of_blk {g : Nat} (h : Blk w g 5 (u8s xs)) (hb : base ≤ g) (hm : xs.length ≤ maxLen) : Own8 w base (.slice (some ⟨g, 0, none⟩) xs.length xs.length) xs :=
  ⟨by simp [u8s], .inr ⟨g, xs.length, (u8s xs).toArray, rfl, hb, h, Nat.le_refl _, hm, by simp [u8s], by rw [Nat.mul_one, List.take_of_length_le (by simp [u8s])]⟩⟩
theorem Own8.keptB (h : Own8 w base v xs) (hb : Below w.heap.size w w') : Own8 w' base v xs := own_keptB h hb
theorem Own8.more (h : Own8 w base v xs) (hb : B ≤ base) : Own8 w B v xs := own_more h hb
end
end Go.Proofs.YtgjepahhbecljaaDoor
