/- What Say and Said answer, in one form whether there is an answer or none. No condition.
What a store into a request's block leaves: rows of bytes (where the block's bytes stay), tests, blobs. No condition.
What Ask and Asked answer, in one form whether there is an answer or none; a request cut small. No condition. -/
import Derived.Test.YtfinfkodjkfibaaDoorMsgSaid
import Derived.Test.YtfinfkodjkfibaaDoorReqAll
import Derived.Test.YtfinfkodjkfibaaDoorMsgFrames
import Derived.Test.YtfinfkodjkfibaaDoorHeldAll
import Derived.Test.YtfinfkodjkfibaaDoorAskDefs
namespace Go.Proofs.YtfinfkodjkfibaaDoor
open Go Go.RowKit
set_option linter.unusedVariables false
set_option maxRecDepth 100000
def SayU (w w' : World) (e : Ending) (r : Option (List Int)) : Prop :=
  ∃ v, e = .returned (.tuple #[v, .bool r.isSome]) ∧ Bs w' w'.heap.size v (r.getD []) ∧ Bytes (r.getD []) ∧ Below w.heap.size w w'
theorem SayRes.u {w w' : World} {e : Ending} {r : Option (List Int)} (h : SayRes w w' e r) : SayU w w' e r := by
  rcases h with ⟨v, b, rfl, rfl, hr, hb⟩ | ⟨rfl, rfl, hb⟩
  · exact ⟨v, rfl, hr.reads, hr.bytes, hb⟩
  · exact ⟨_, rfl, Bs.nil_ _ _, (fun x hx => by cases hx), hb⟩
def SaidU (w w' : World) (e : Ending) (r : Option (Int × List Msg.Blb)) : Prop :=
  ∃ v, e = .returned (.tuple #[.agg #[.int .i64 (r.getD (0, [])).1, v], .bool r.isSome]) ∧ BlbsB w' w'.heap.size v (r.getD (0, [])).2 ∧ Below w.heap.size w w'
theorem SaidRes.u {w w' : World} {e : Ending} {r : Option (Int × List Msg.Blb)} (h : SaidRes w w' e r) : SaidU w w' e r := by
  rcases h with ⟨v, E, l, rfl, rfl, hr, hb⟩ | ⟨rfl, rfl, hb⟩
  · exact ⟨v, rfl, hr, hb⟩
  · exact ⟨_, rfl, BlbsB.nil_ _ _, hb⟩
theorem say_get_len {E : Int} {l : List Msg.Blb} {r : Option (List Int)} (h : Msg.sayF E l = r) : (r.getD []).length ≤ 16384 := by
  rcases r with _ | b
  · simp
  · exact (Msg.sayF_some h).2.1
theorem cutB_in {k : Nat} {l : List Msg.Blb} (h : InB l) : ∀ x ∈ cutB k l, Bytes x.2 ∧ In64 x.1 ∧ x.2.length ≤ 100 := fun x hx => by
  unfold cutB at hx
  obtain ⟨y, hy, rfl⟩ := List.mem_map.1 hx
  have := h y (List.mem_of_mem_take hy)
  exact ⟨fun z hz => this.1 z (List.mem_of_mem_take hz), this.2, by simp only [List.length_take]; omega⟩
section
variable {ops : Array Oper} {rest : List Oper} {o : Oper} {a : Act} {w : World} {Q : Exit → Act → World → Prop}
theorem wpList_rq_fieldB (x : Operand) (ho : o.op = .field 31 x 6) {q : Msg.Req} {vt vb : Value} (hk : KeysR q) (hx : a.eval x = .agg (reqCells q vt vb).toArray) (hw : Region.wanted o (yielded ops a.tmps) = true)
    (h : wpList Tryd.prog ops Q rest (a.put o.dst vb) w) : wpList Tryd.prog ops Q (o :: rest) a w := by
  refine wpList_go hw fun _ hK => wp_value vb ?_ (hK _ _ h)
  have hc := rq_blobs (vt := vt) (vb := vb) hk
  generalize reqCells q vt vb = cs at hc hx
  unfold execOp
  simp only [ho, hx]
  obtain ⟨d, hd, hi⟩ : ∃ d, Tryd.prog.underlying 31 = some d ∧ (match d with | .struct fs => (fs[6]?).map (fun f => (f.type, f.offset)) | _ => none) = some (23, 51) := ⟨_, Tryd.underlying31, by rfl⟩
  simp only [Instr.field, Sem.run_bind, run_underlying hd]
  cases d <;> first | (cases hi; done) | skip
  rename_i fs
  simp only [Option.map_eq_some_iff, Prod.mk.injEq] at hi
  obtain ⟨f, hf, h1, h2⟩ := hi
  have hag : ∀ w, (isAgg 23).run Tryd.prog w = .ok false w := fun w => by kernel_rfl
  simp [hf, part, h1, h2, Sem.run_bind, hag, asAgg, hc]
end
end Go.Proofs.YtfinfkodjkfibaaDoor

namespace Go.Proofs.YtfinfkodjkfibaaDoor
open Go Go.RowKit
set_option linter.unusedVariables false
set_option maxRecDepth 100000
/-- The bytes among the cells stay. -/
def KeepU8 (cs cs' : List Value) : Prop := ∀ (i : Nat) (n : Int), cs[i]? = some (.int .u8 n) → cs'[i]? = some (.int .u8 n)
theorem Bs.keepU8 {w w' : World} {B g : Nat} {v : Value} {xs : List Int} {t t' : TypeId} {cs cs' : List Value} (h : Bs w B v xs) (hB : B ≤ w.heap.size) (hg : w.grownBy w' (some g)) (hk : Blk w g t cs) (hk' : Blk w' g t' cs') (hc : KeepU8 cs cs') : Bs w' B v xs := by
  obtain ⟨A', c', hv, g1, g2, g3, g4⟩ := h
  refine ⟨A', c', hv, g1, g2, g3, fun hp => ?_⟩
  obtain ⟨k, o, rfl, hkB, hcc⟩ := g4 hp
  refine ⟨k, o, rfl, hkB, fun j u hu => ?_⟩
  have h0 := hcc j u hu
  by_cases he : k = g
  · subst he
    obtain ⟨n, rfl⟩ : ∃ n, u = .int .u8 n := by
      unfold u8s at hu
      rw [List.getElem?_map] at hu
      obtain ⟨y, _, hy⟩ := Option.map_eq_some_iff.1 hu
      exact ⟨y, hy.symm⟩
    rw [hk.cell] at h0
    rw [hk'.cell]
    exact hc _ _ h0
  · rw [← h0]
    exact World.cell?_of_block (hg.block k (by omega) (by intro e; injection e with e; exact he e))
theorem OwnBlbs.keepU8 {w w' : World} {base g : Nat} {v : Value} {l : List Msg.Blb} {t t' : TypeId} {cs cs' : List Value} (h : OwnBlbs w base v l) (hB : base ≤ w.heap.size) (hg : w.grownBy w' (some g)) (hk : Blk w g t cs) (hk' : Blk w' g t' cs') (hc : KeepU8 cs cs') (ht : t ≠ 44) (ht' : t ≠ 5) : OwnBlbs w' base v l := by
  obtain ⟨us, hl, h1, h2⟩ := h
  refine ⟨us, hl, h1.kept hg (by
    have := own_ne_blk h1 hk (Ne.symm ht)
    cases ho : v.ownBlock with
    | none => exact .inl rfl
    | some k => exact .inr (by rw [ho] at this; exact fun e => this e.symm)), fun i hi => ?_⟩
  obtain ⟨u, hu, hx⟩ := h2 i hi
  refine ⟨u, hu, ?_⟩
  rcases hx with hx | hx
  · exact .inl (hx.keepU8 hB hg hk hk' hc)
  · exact .inr (hx.pastT hk ht' hg)
/-- Tests are read where there are truth values; a block without any holds none. -/
theorem TstsB.past {w w' : World} {B g : Nat} {v : Value} {l : List Msg.Tst} {t : TypeId} {cs : List Value} (h : TstsB w B v l) (hB : B ≤ w.heap.size) (hg : w.grownBy w' (some g)) (hk : Blk w g t cs) (hn : ∀ b, Value.bool b ∉ cs) : TstsB w' B v l := by
  have hop := h.open_
  obtain ⟨⟨A, c, hv, h1, h2, h4, h3⟩, hw⟩ := h
  refine ⟨⟨A, c, hv, h1, h2, h4, fun hp => ?_⟩, hw⟩
  obtain ⟨b, o, rfl, hb, hc⟩ := h3 hp
  refine ⟨b, o, rfl, hb, fun j u hu => ?_⟩
  have hne : b ≠ g := by
    intro e
    subst e
    obtain ⟨A2, c2, hv2, _, _, hr⟩ := hop
    obtain ⟨b2, o2, e2, _, hr⟩ := hr hp
    rw [hv] at hv2
    injection hv2 with hv2
    rw [e2] at hv2
    injection hv2 with hv2
    injection hv2 with e3 e4
    subst e3 e4
    have := hr 0 hp 1 (.bool l[0].absent) rfl
    rw [hk.cell] at this
    exact hn _ (List.mem_of_getElem? this)
  rw [← hc j u hu]
  exact World.cell?_of_block (hg.block b (by omega) (by intro e; injection e with e; exact hne e))
section
variable {q q' : Msg.Req} {vt vb vt' vb' : Value}
theorem rq_nobool (h1 : ∀ b, vt ≠ .bool b) (h2 : ∀ b, vb ≠ .bool b) : ∀ b, Value.bool b ∉ reqCells q vt vb := fun b h => by
  unfold reqCells at h
  simp only [List.mem_cons, List.mem_append, List.not_mem_nil, or_false] at h
  have hu : ∀ x : List Int, Value.bool b ∉ u8s x := fun x hx => by
    unfold u8s at hx
    obtain ⟨y, _, hy⟩ := List.mem_map.1 hx
    cases hy
  rcases h with h | h | h | h | h | h | h
  · cases h
  · exact hu _ h
  · exact hu _ h
  · cases h
  · exact hu _ h
  · exact h1 b h.symm
  · exact h2 b h.symm
theorem slice_nobool {A : Option Addr} {n c : Nat} : ∀ b, Value.slice A n c ≠ .bool b := fun _ h => by cases h
/-- Whatever else is written, the keys stay. -/
theorem rq_keep (hk : KeysR q) (hk' : KeysR q') (hi : q'.index = q.index) (hs : q'.secret = q.secret) (he : q'.enable = q.enable) (h1 : ∀ n, vt ≠ .int .u8 n) (h2 : ∀ n, vb ≠ .int .u8 n) : KeepU8 (reqCells q vt vb) (reqCells q' vt' vb') := fun i n h => by
  unfold reqCells at h ⊢
  rw [hi, hs, he]
  have li := u8s_len q.index
  have ls := u8s_len q.secret
  have le := u8s_len q.enable
  rw [hk.i] at li
  rw [hk.s] at ls
  rw [hk.e] at le
  rcases i with _ | i
  · injection h with h; cases h
  rw [List.getElem?_cons_succ] at h ⊢
  rcases Nat.lt_or_ge i 16 with c1 | c1
  · rw [List.getElem?_append_left (by omega)] at h ⊢; exact h
  rw [List.getElem?_append_right (by omega)] at h ⊢
  rw [li] at h ⊢
  rcases Nat.lt_or_ge (i - 16) 16 with c2 | c2
  · rw [List.getElem?_append_left (by omega)] at h ⊢; exact h
  rw [List.getElem?_append_right (by omega)] at h ⊢
  rw [ls] at h ⊢
  rcases hj : i - 16 - 16 with _ | j
  · rw [hj] at h; injection h with h; cases h
  rw [hj] at h
  rw [List.getElem?_cons_succ] at h ⊢
  rcases Nat.lt_or_ge j 16 with c3 | c3
  · rw [List.getElem?_append_left (by omega)] at h ⊢; exact h
  rw [List.getElem?_append_right (by omega)] at h ⊢
  rw [le] at h ⊢
  rcases hm : j - 16 with _ | _ | k
  · rw [hm] at h; injection h with h; exact absurd h (h1 n)
  · rw [hm] at h; injection h with h; exact absurd h (h2 n)
  · rw [hm] at h; simp at h
end
end Go.Proofs.YtfinfkodjkfibaaDoor

namespace Go.Proofs.YtfinfkodjkfibaaDoor
open Go Go.RowKit
set_option linter.unusedVariables false
set_option maxRecDepth 100000
def AskedU (w w' : World) (e : Ending) (r : Option Msg.Req) : Prop :=
  ∃ vt vb, e = .returned (.tuple #[.agg (reqCells (r.getD req0) vt vb).toArray, .bool r.isSome]) ∧ KeysR (r.getD req0) ∧ TstsB w' w'.heap.size vt (r.getD req0).tests ∧ BlbsB w' w'.heap.size vb (r.getD req0).blobs ∧ Below w.heap.size w w'
theorem AskedRes.u {w w' : World} {e : Ending} {r : Option Msg.Req} (h : AskedRes w w' e r) : AskedU w w' e r := by
  rcases h with ⟨vt, vb, q, rfl, rfl, hk, ht, hb, hbel⟩ | ⟨rfl, rfl, hbel⟩
  · exact ⟨vt, vb, rfl, hk, ht, hb, hbel⟩
  · exact ⟨_, _, rfl, req0_keys, TstsB.nil_ _ _, BlbsB.nil_ _ _, hbel⟩
theorem ask_get_len {q : Msg.Req} {r : Option (List Int)} (h : Msg.askF q = r) : (r.getD []).length ≤ 16384 := by
  rcases r with _ | b
  · simp
  · exact (Msg.askF_some h).2.1
/-- A request cut small. -/
def cutR (q : Msg.Req) : Msg.Req := { q with tests := q.tests.take 34, blobs := cutB 34 q.blobs }
theorem cutR_in {q : Msg.Req} (h : InR q) : AskIn (cutR q) where
  keys := ⟨h.keys.i, h.keys.s, h.keys.e⟩
  bi := h.bi
  bs := h.bs
  be := h.be
  kind := h.kind
  ends := h.ends
  tests := fun t ht => by have := h.tests t (List.mem_of_mem_take ht); exact ⟨this.2.1, this.2.2⟩
  blobs := fun x hx => by have := cutB_in (k := 34) h.blobs x hx; exact ⟨⟨this.1, by omega⟩, this.2.1⟩
theorem BlbsB.one_ {w : World} {B : Nat} {v : Value} {l : List Msg.Blb} (h : BlbsB w B v l) : v.oneCell' = true := by
  obtain ⟨A, c, rfl, _⟩ := h.open_
  rfl
theorem TstsB.noB {w : World} {B : Nat} {v : Value} {l : List Msg.Tst} (h : TstsB w B v l) : (∀ b, v ≠ .bool b) ∧ ∀ n, v ≠ .int .u8 n := by
  obtain ⟨A, c, rfl, _⟩ := h.open_
  exact ⟨slice_nobool, slice_no⟩
theorem BlbsB.noB {w : World} {B : Nat} {v : Value} {l : List Msg.Blb} (h : BlbsB w B v l) : (∀ b, v ≠ .bool b) ∧ ∀ n, v ≠ .int .u8 n := by
  obtain ⟨A, c, rfl, _⟩ := h.open_
  exact ⟨slice_nobool, slice_no⟩
end Go.Proofs.YtfinfkodjkfibaaDoor
