/- What Say and Said answer, in one form whether there is an answer or none. No condition. -/
import Derived.Test.YtfinfkodjkfibaaDoorMsgSaid
import Derived.Test.YtfinfkodjkfibaaDoorReqAll
import Derived.Test.YtfinfkodjkfibaaDoorMsgFrame
namespace Go.Proofs.YtfinfkodjkfibaaDoor
open Go Go.RowKit
set_option linter.unusedVariables false
set_option maxRecDepth 100000
def SayU (w w' : World) (e : Ending) (r : Option (List Int)) : Prop :=
  ∃ v, e = .returned (.tuple #[v, .bool r.isSome]) ∧ Bs w' w'.heap.size v (r.getD []) ∧ Bytes (r.getD []) ∧ Below w.heap.size w w'
theorem SayRes.u {w w' : World} {e : Ending} {r : Option (List Int)} (h : SayRes w w' e r) : SayU w w' e r := by
  rcases h with ⟨v, b, rfl, rfl, hr, hb⟩ | ⟨rfl, rfl, hb⟩
  · exact ⟨v, rfl, hr.reads, hr.bytes, hb⟩
  · exact ⟨_, rfl, Bs.nil_ _ _, (fun x hx => by cases hx), hb⟩
def SaidU (w w' : World) (e : Ending) (r : Option (Int × List Msg.Blb)) : Prop :=
  ∃ v, e = .returned (.tuple #[.agg #[.int .i64 (r.getD (0, [])).1, v], .bool r.isSome]) ∧ BlbsB w' w'.heap.size v (r.getD (0, [])).2 ∧ Below w.heap.size w w'
theorem SaidRes.u {w w' : World} {e : Ending} {r : Option (Int × List Msg.Blb)} (h : SaidRes w w' e r) : SaidU w w' e r := by
  rcases h with ⟨v, E, l, rfl, rfl, hr, hb⟩ | ⟨rfl, rfl, hb⟩
  · exact ⟨v, rfl, hr, hb⟩
  · exact ⟨_, rfl, BlbsB.nil_ _ _, hb⟩
theorem say_get_len {E : Int} {l : List Msg.Blb} {r : Option (List Int)} (h : Msg.sayF E l = r) : (r.getD []).length ≤ 16384 := by
  rcases r with _ | b
  · simp
  · exact (Msg.sayF_some h).2.1
theorem cutB_in {k : Nat} {l : List Msg.Blb} (h : InB l) : ∀ x ∈ cutB k l, Bytes x.2 ∧ In64 x.1 ∧ x.2.length ≤ 100 := fun x hx => by
  unfold cutB at hx
  obtain ⟨y, hy, rfl⟩ := List.mem_map.1 hx
  have := h y (List.mem_of_mem_take hy)
  exact ⟨fun z hz => this.1 z (List.mem_of_mem_take hz), this.2, by simp only [List.length_take]; omega⟩
section
variable {ops : Array Oper} {rest : List Oper} {o : Oper} {a : Act} {w : World} {Q : Exit → Act → World → Prop}
theorem wpList_rq_fieldB (x : Operand) (ho : o.op = .field 31 x 6) {q : Msg.Req} {vt vb : Value} (hk : KeysR q) (hx : a.eval x = .agg (reqCells q vt vb).toArray) (hw : Region.wanted o (yielded ops a.tmps) = true)
    (h : wpList Tryd.prog ops Q rest (a.put o.dst vb) w) : wpList Tryd.prog ops Q (o :: rest) a w := by
  refine wpList_go hw fun _ hK => wp_value vb ?_ (hK _ _ h)
  have hc := rq_blobs (vt := vt) (vb := vb) hk
  generalize reqCells q vt vb = cs at hc hx
  unfold execOp
  simp only [ho, hx]
  obtain ⟨d, hd, hi⟩ : ∃ d, Tryd.prog.underlying 31 = some d ∧ (match d with | .struct fs => (fs[6]?).map (fun f => (f.type, f.offset)) | _ => none) = some (23, 51) := ⟨_, Tryd.underlying31, by rfl⟩
  simp only [Instr.field, Sem.run_bind, run_underlying hd]
  cases d <;> first | (cases hi; done) | skip
  rename_i fs
  simp only [Option.map_eq_some_iff, Prod.mk.injEq] at hi
  obtain ⟨f, hf, h1, h2⟩ := hi
  have hag : ∀ w, (isAgg 23).run Tryd.prog w = .ok false w := fun w => by kernel_rfl
  simp [hf, part, h1, h2, Sem.run_bind, hag, asAgg, hc]
end
end Go.Proofs.YtfinfkodjkfibaaDoor
