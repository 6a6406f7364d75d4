/- What is read well as a request is right. No condition.
What msgs.Asked answers, and small laws for it. No condition. -/
import Derived.Test.YtfinfkodjkfibaaDoorMsgLaws
import Derived.Test.YtfinfkodjkfibaaDoorMsgAsk
import Derived.Test.YtfinfkodjkfibaaDoorHeldAll
import Derived.Test.YtfinfkodjkfibaaDoorReqAll
import Derived.Test.YtfinfkodjkfibaaDoorMsgSaid
import Derived.Test.YtfinfkodjkfibaaDoorTstAll
namespace Go.Proofs.YtfinfkodjkfibaaDoor.Msg
theorem asked_right {b : List Int} (hb : Bytes b) (h1 : ¬ ((readP b).bl.2.bad = true ∨ (readP b).k.1 < 1 ∨ 6 < (readP b).k.1 ∨ 1048576 < (readP b).e.1)) : RightR (readP b).req := by
  have g8 : (readP b).bl.2.bad = false := good fun h => h1 (.inl h)
  have hk : ¬ (readP b).k.1 < 1 := fun h => h1 (.inr (.inl h))
  have hk6 : ¬ 6 < (readP b).k.1 := fun h => h1 (.inr (.inr (.inl h)))
  have he : ¬ 1048576 < (readP b).e.1 := fun h => h1 (.inr (.inr (.inr h)))
  have rk : rK b = numP 1 ⟨b, false⟩ := by rw [rK]
  have ri : rI b = rowP 16 (rK b).2 := by rw [rI]
  have rs : rS b = rowP 16 (rI b).2 := by rw [rS]
  have re : rE b = numP 4 (rS b).2 := by rw [rE]
  have rn : rN b = rowP 16 (rE b).2 := by rw [rN]
  have rt : rT b = testsN (countP' (rN b).2).1.toNat (countP' (rN b).2).2 := by rw [rT, rC]
  have rb : rB b = blobsP (rT b).2 := by rw [rB]
  have hreq : (readP b).req = ⟨(rK b).1, (rI b).1, (rS b).1, (rE b).1, (rN b).1, (rT b).1, (rB b).1⟩ := by rw [Asked.req, readP]
  rw [hreq]
  clear hreq
  simp only [readP] at g8 hk hk6 he
  clear h1
  generalize rK b = k at *
  generalize rI b = i at *
  generalize rS b = s at *
  generalize rE b = e at *
  generalize rN b = en at *
  generalize rT b = ts at *
  generalize rB b = bl at *
  have g7 : (blobsP ts.2).2.bad = false := by rw [← rb]; exact g8
  have g6 : ts.2.bad = false := good fun h => by rw [blobsP_bad h] at g7; cases g7
  have g5 : (countP' en.2).2.bad = false := good fun h => by
    have : ts.2.bad = true := by rw [rt]; exact testsN_bad _ h
    rw [this] at g6; cases g6
  have g4 : en.2.bad = false := good fun h => by rw [countP_bad h] at g5; cases g5
  have g3 : e.2.bad = false := good fun h => by rw [rn, rowP_bad h] at g4; cases g4
  have g2 : s.2.bad = false := good fun h => by rw [re, numP_bad h] at g3; cases g3
  have g1 : i.2.bad = false := good fun h => by rw [rs, rowP_bad h] at g2; cases g2
  have g0 : k.2.bad = false := good fun h => by rw [ri, rowP_bad h] at g1; cases g1
  obtain ⟨a1, a2, _⟩ := num_well (w := 1) (by omega) (s := ⟨b, false⟩) hb (by rw [← rk]; exact g0)
  rw [← rk] at a1 a2
  obtain ⟨b1, b2, b3, _⟩ := row_well (n := 16) (s := k.2) a1.2.2 (by rw [← ri]; exact g1)
  rw [← ri] at b1 b2 b3
  obtain ⟨c1, c2, c3, _⟩ := row_well (n := 16) (s := i.2) b1.2.2 (by rw [← rs]; exact g2)
  rw [← rs] at c1 c2 c3
  obtain ⟨d1, d2, d3⟩ := num_well (w := 4) (by omega) (s := s.2) c1.2.2 (by rw [← re]; exact g3)
  rw [← re] at d1 d2
  obtain ⟨e1, e2, e3, _⟩ := row_well (n := 16) (s := e.2) d1.2.2 (by rw [← rn]; exact g4)
  rw [← rn] at e1 e2 e3
  obtain ⟨f1, f2, f3⟩ := count_well (s := en.2) e1.2.2 g5
  obtain ⟨t1, t2, t3⟩ := tests_well (countP' en.2).1.toNat (s := (countP' en.2).2) f1.2.2 (by rw [← rt]; exact g6)
  rw [← rt] at t1 t2 t3
  obtain ⟨u1, u2⟩ := blobs_well (s := ts.2) t2 g7
  rw [← rb] at u2
  exact ⟨⟨by show 1 ≤ k.1; omega, by show k.1 ≤ 6; omega⟩, ⟨d2, by show e.1 ≤ 1048576; omega⟩, ⟨by have := b2 (by omega); show i.1.length = 16; omega, b3⟩, ⟨by have := c2 (by omega); show s.1.length = 16; omega, c3⟩, ⟨by have := e2 (by omega); show en.1.length = 16; omega, e3⟩, ⟨by show ts.1.length ≤ 32; omega, t1⟩, u2⟩
theorem tests_round {l : List Tst} {s' : St} {m i : Nat} {t : Tst} {s2 : St} {X : List Tst × St} (h1 : i < m) (hx : X = (l ++ (testsN (m - i) s').1, (testsN (m - i) s').2)) (ht : testP s' = (t, s2)) : X = ((l ++ [t]) ++ (testsN (m - (i + 1)) s2).1, (testsN (m - (i + 1)) s2).2) := by
  rw [hx, show m - i = (m - (i + 1)) + 1 by omega, testsN, ht]
  simp
end Go.Proofs.YtfinfkodjkfibaaDoor.Msg

namespace Go.Proofs.YtfinfkodjkfibaaDoor
open Go Go.RowKit
set_option linter.unusedVariables false
set_option linter.unusedSimpArgs false
set_option maxRecDepth 100000
theorem size_bool1 : (Tryd.prog.info? 4).map (·.size) = some 1 := by kernel_rfl
theorem tst_want {w : World} {g : Nat} {t : Msg.Tst} (h : Blk w g 60 (tstC t)) : w.rangeAt g 2 (u8s t.want) := blk_range h 2 _ (fun j u hu => by
  unfold tstC
  rw [show 2 + j = j + 1 + 1 by omega, List.getElem?_cons_succ, List.getElem?_cons_succ]; exact hu)
theorem size_hash32 : (Tryd.prog.info? 58).map (·.size) = some 32 := by kernel_rfl
theorem OwnTsts.pastR {w w' : World} {base g B0 : Nat} {v : Value} {l : List Msg.Tst} {s : Msg.St} (h : OwnTsts w base v l) (hR : RdrAt w g B0 s) (hg : w.grownBy w' (some g)) : OwnTsts w' base v l := by
  obtain ⟨_, hB, _⟩ := hR
  exact h.past hB (by decide) hg
/-- What Asked answers. -/
def AskedRes (w w' : World) (e : Ending) (r : Option Msg.Req) : Prop :=
  (∃ vt vb q, r = some q ∧ e = .returned (.tuple #[.agg (reqCells q vt vb).toArray, .bool true]) ∧ KeysR q ∧ TstsB w' w'.heap.size vt q.tests ∧ BlbsB w' w'.heap.size vb q.blobs ∧ Below w.heap.size w w') ∨
  (r = none ∧ e = .returned (.tuple #[.agg (reqCells req0 (.slice none 0 0) (.slice none 0 0)).toArray, .bool false]) ∧ Below w.heap.size w w')
theorem Msg.askedP_letters (b : List Int) (k : Int × Msg.St) (i s : List Int × Msg.St) (e : Int × Msg.St) (en : List Int × Msg.St) (t : List Msg.Tst × Msg.St) (bl : List Msg.Blb × Msg.St) (h : Msg.readP b = ⟨k, i, s, e, en, t, bl⟩) :
    Msg.askedP b = if bl.2.bad = true ∨ k.1 < 1 ∨ 6 < k.1 ∨ 1048576 < e.1 then none else if Msg.askF ⟨k.1, i.1, s.1, e.1, en.1, t.1, bl.1⟩ = some b then some ⟨k.1, i.1, s.1, e.1, en.1, t.1, bl.1⟩ else none := by
  unfold Msg.askedP
  rw [h]
  rfl
theorem Msg.asked_right_letters (b : List Int) (k : Int × Msg.St) (i s : List Int × Msg.St) (e : Int × Msg.St) (en : List Int × Msg.St) (t : List Msg.Tst × Msg.St) (bl : List Msg.Blb × Msg.St) (h : Msg.readP b = ⟨k, i, s, e, en, t, bl⟩) (hb : Bytes b)
    (h1 : ¬ (bl.2.bad = true ∨ k.1 < 1 ∨ 6 < k.1 ∨ 1048576 < e.1)) : Msg.RightR ⟨k.1, i.1, s.1, e.1, en.1, t.1, bl.1⟩ := by
  have := Msg.asked_right hb (by rw [h]; exact h1)
  rw [h] at this
  exact this
theorem size_req0 : (Tryd.prog.info? 31).map (·.size) = some (reqCells req0 (.slice none 0 0) (.slice none 0 0)).length := by rw [rq_len req0_keys]; exact size_req
theorem askIn_right {q : Msg.Req} (h : Msg.RightR q) : AskIn q where
  keys := ⟨h.index.1, h.secret.1, h.enable.1⟩
  bi := h.index.2
  bs := h.secret.2
  be := h.enable.2
  kind := by have := h.kind; omega
  ends := by have := h.ends; omega
  tests := fun t ht => by have := h.tests.2 t ht; exact ⟨this.2.2.1, by have := this.1; omega⟩
  blobs := fun x hx => by have := h.blobs.2 x hx; exact ⟨⟨this.2.1, by omega⟩, by omega⟩
theorem rowP_len16 (s : Msg.St) : (Msg.rowP 16 s).1.length = 16 := by have := rowP_len (n := 16) (by omega) s; omega
end Go.Proofs.YtfinfkodjkfibaaDoor
