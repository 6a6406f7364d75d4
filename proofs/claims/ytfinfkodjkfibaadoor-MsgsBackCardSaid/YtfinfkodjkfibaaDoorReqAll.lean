/- Requests in blocks of their own: their fields read and written, whole ones read, written, built; slices of tests. No condition.
aumbrykeep.Cut at tests and blobs. No condition.
aumbrylaw17.request: a request small enough to be played. Condition: at most a million tests.
A request built of its parts. No condition.
Lists of tests of the call's own. No condition. -/
import Derived.Test.YtfinfkodjkfibaaDoorStruct
import Derived.Test.YtfinfkodjkfibaaDoorMsgLaws
import Derived.Test.YtfinfkodjkfibaaDoorKeep
import Derived.Test.YtfinfkodjkfibaaDoorBlobs
import Derived.Test.YtfinfkodjkfibaaDoorBlobLit
import Derived.Test.YtfinfkodjkfibaaDoorSym
import Derived.Deep.DeepCutAuto
import Derived.Test.YtfinfkodjkfibaaDoorRowsLit
import Derived.Test.YtfinfkodjkfibaaDoorCells
namespace Go.Proofs.YtfinfkodjkfibaaDoor
open Go Go.RowKit
set_option linter.unusedVariables false
set_option linter.unusedSimpArgs false
set_option maxRecDepth 100000
def reqCells (q : Msg.Req) (vt vb : Value) : List Value := .int .i64 q.kind :: (u8s q.index ++ (u8s q.secret ++ (.int .i64 q.ends :: (u8s q.enable ++ [vt, vb]))))
/-- Keys of 16 bytes. -/
structure KeysR (q : Msg.Req) : Prop where
  i : q.index.length = 16
  s : q.secret.length = 16
  e : q.enable.length = 16
section
variable {q : Msg.Req} {vt vb : Value}
theorem rq_len (h : KeysR q) : (reqCells q vt vb).length = 52 := by simp [reqCells, u8s_len, h.i, h.s, h.e]
theorem rq_pre (h : KeysR q) : ∃ pre, (∀ vt vb, reqCells q vt vb = pre ++ [vt, vb]) ∧ pre.length = 50 :=
  ⟨.int .i64 q.kind :: (u8s q.index ++ (u8s q.secret ++ (.int .i64 q.ends :: u8s q.enable))), fun vt vb => by simp [reqCells], by simp [u8s_len, h.i, h.s, h.e]⟩
theorem rq_kind : (reqCells q vt vb)[0]? = some (.int .i64 q.kind) := rfl
theorem rq_tests (h : KeysR q) : (reqCells q vt vb)[50]? = some vt := by
  obtain ⟨pre, e, hl⟩ := rq_pre h
  rw [e, List.getElem?_append_right (by omega), hl]; rfl
theorem rq_blobs (h : KeysR q) : (reqCells q vt vb)[51]? = some vb := by
  obtain ⟨pre, e, hl⟩ := rq_pre h
  rw [e, List.getElem?_append_right (by omega), hl]; rfl
theorem rq_ends (h : KeysR q) : (reqCells q vt vb)[33]? = some (.int .i64 q.ends) := by
  unfold reqCells
  rw [show 33 = 32 + 1 from rfl, List.getElem?_cons_succ, List.getElem?_append_right (by rw [u8s_len, h.i]; omega), List.getElem?_append_right (by rw [u8s_len, u8s_len, h.i, h.s]; omega), u8s_len, u8s_len, h.i, h.s]
  rfl
theorem rq_index (h : KeysR q) (j : Nat) (u : Value) (hu : (u8s q.index)[j]? = some u) : (reqCells q vt vb)[1 + j]? = some u := by
  have hj : j < 16 := by have := (List.getElem?_eq_some_iff.1 hu).1; rw [u8s_len, h.i] at this; omega
  unfold reqCells
  rw [show 1 + j = j + 1 by omega, List.getElem?_cons_succ, List.getElem?_append_left (by rw [u8s_len, h.i]; omega)]
  exact hu
theorem rq_secret (h : KeysR q) (j : Nat) (u : Value) (hu : (u8s q.secret)[j]? = some u) : (reqCells q vt vb)[17 + j]? = some u := by
  have hj : j < 16 := by have := (List.getElem?_eq_some_iff.1 hu).1; rw [u8s_len, h.s] at this; omega
  unfold reqCells
  rw [show 17 + j = (16 + j) + 1 by omega, List.getElem?_cons_succ, List.getElem?_append_right (by rw [u8s_len, h.i]; omega), u8s_len, h.i, List.getElem?_append_left (by rw [u8s_len, h.s]; omega), ← hu]
  congr 1; omega
theorem rq_enable (h : KeysR q) (j : Nat) (u : Value) (hu : (u8s q.enable)[j]? = some u) : (reqCells q vt vb)[34 + j]? = some u := by
  have hj : j < 16 := by have := (List.getElem?_eq_some_iff.1 hu).1; rw [u8s_len, h.e] at this; omega
  unfold reqCells
  rw [show 34 + j = (33 + j) + 1 by omega, List.getElem?_cons_succ, List.getElem?_append_right (by rw [u8s_len, h.i]; omega), List.getElem?_append_right (by rw [u8s_len, u8s_len, h.i, h.s]; omega), u8s_len, u8s_len, h.i, h.s, show 33 + j - 16 - 16 = j + 1 by omega, List.getElem?_cons_succ, List.getElem?_append_left (by rw [u8s_len, h.e]; omega), ← hu]
theorem rq_setT (h : KeysR q) (v : Value) : (reqCells q vt vb).set 50 v = reqCells q v vb := by
  obtain ⟨pre, e, hl⟩ := rq_pre h
  rw [e, e, List.set_append_right _ _ (by omega), hl]; rfl
theorem rq_setB (h : KeysR q) (v : Value) : (reqCells q vt vb).set 51 v = reqCells q vt v := by
  obtain ⟨pre, e, hl⟩ := rq_pre h
  rw [e, e, List.set_append_right _ _ (by omega), hl]; rfl
theorem rq_setK (n : Int) : (reqCells q vt vb).set 0 (.int .i64 n) = reqCells { q with kind := n } vt vb := rfl
theorem rq_setE (h : KeysR q) (n : Int) : (reqCells q vt vb).set 33 (.int .i64 n) = reqCells { q with ends := n } vt vb := by
  unfold reqCells
  rw [show 33 = 32 + 1 from rfl, List.set_cons_succ, List.set_append_right _ _ (by rw [u8s_len, h.i]; omega), List.set_append_right _ _ (by rw [u8s_len, u8s_len, h.i, h.s]; omega), u8s_len, u8s_len, h.i, h.s]
  rfl
theorem rq_one (hT : vt.oneCell' = true) (hB : vb.oneCell' = true) : ∀ u ∈ reqCells q vt vb, u.oneCell' = true := fun u hu => by
  unfold reqCells at hu
  simp only [List.mem_cons, List.mem_append, List.not_mem_nil, or_false] at hu
  rcases hu with rfl | hu | hu | rfl | hu | rfl | rfl
  · rfl
  · exact u8s_one _ _ hu
  · exact u8s_one _ _ hu
  · rfl
  · exact u8s_one _ _ hu
  · exact hT
  · exact hB
end
def req0 : Msg.Req := ⟨0, List.replicate 16 0, List.replicate 16 0, 0, List.replicate 16 0, [], []⟩
theorem req0_keys : KeysR req0 := ⟨rfl, rfl, rfl⟩
theorem size_req : (Tryd.prog.info? 31).map (·.size) = some 52 := by kernel_rfl
theorem zero_req : (Tryd.prog.info? 31).map (·.zero) = some (some (.agg (reqCells req0 (.slice none 0 0) (.slice none 0 0)).toArray)) := by kernel_rfl
theorem built_req0 : Tryd.prog.built 31 [] = some (reqCells req0 (.slice none 0 0) (.slice none 0 0)).toArray := by kernel_rfl
theorem built_req6 (A : Option Addr) (n c : Nat) : Tryd.prog.built 31 [(6, .slice A n c)] = some (reqCells req0 (.slice none 0 0) (.slice A n c)).toArray := by kernel_rfl
theorem built_req06 (k : Int) (A : Option Addr) (n c : Nat) : Tryd.prog.built 31 [(0, .int .i64 k), (6, .slice A n c)] = some (reqCells { req0 with kind := k } (.slice none 0 0) (.slice A n c)).toArray := by kernel_rfl
theorem size_tests : (Tryd.prog.info? 29).map (·.size) = some 1 := by kernel_rfl
theorem size_blobs' : (Tryd.prog.info? 23).map (·.size) = some 1 := by kernel_rfl
theorem size_key16 : (Tryd.prog.info? 28).map (·.size) = some 16 := by kernel_rfl
/-- A request lies whole in block g. -/
structure ReqB (w : World) (g : Nat) (q : Msg.Req) (vt vb : Value) : Prop where
  blk : Blk w g 31 (reqCells q vt vb)
  keys : KeysR q
  oneT : vt.oneCell' = true
  oneB : vb.oneCell' = true
section
variable {w w' : World} {g : Nat} {q : Msg.Req} {vt vb : Value}
theorem ReqB.below {B : Nat} (h : ReqB w g q vt vb) (hb : Below B w w') (hg : g < B) : ReqB w' g q vt vb := ⟨h.blk.below hb hg, h.keys, h.oneT, h.oneB⟩
theorem ReqB.grown {row : Option Nat} (h : ReqB w g q vt vb) (hb : w.grownBy w' row) (hg : some g ≠ row) : ReqB w' g q vt vb := ⟨h.blk.grown hb hg, h.keys, h.oneT, h.oneB⟩
theorem ReqB.drew (h : ReqB w g q vt vb) : ReqB w.drew g q vt vb := ⟨h.blk.drew, h.keys, h.oneT, h.oneB⟩
theorem ReqB.lt (h : ReqB w g q vt vb) : g < w.heap.size := h.blk.lt
theorem ReqB.indexR (h : ReqB w g q vt vb) : w.rangeAt g 1 (u8s q.index) := blk_range h.blk 1 _ (rq_index h.keys)
theorem ReqB.secretR (h : ReqB w g q vt vb) : w.rangeAt g 17 (u8s q.secret) := blk_range h.blk 17 _ (rq_secret h.keys)
theorem ReqB.enableR (h : ReqB w g q vt vb) : w.rangeAt g 34 (u8s q.enable) := blk_range h.blk 34 _ (rq_enable h.keys)
theorem ReqB.row {B off : Nat} {k : List Int} (hl : k.length = 16) (hg : g < B) (hr : w.rangeAt g off (u8s k)) : Bs w B (.slice (some ⟨g, off, none⟩) 16 16) k := by
  unfold Bs
  rw [hl]
  exact ⟨_, 16, rfl, Nat.le_refl _, by decide, by rw [u8s_len, hl], fun _ => ⟨g, off, rfl, hg, hr⟩⟩
end
section
variable {ops : Array Oper} {rest : List Oper} {o : Oper} {a : Act} {w : World} {Q : Exit → Act → World → Prop} {g : Nat} {q : Msg.Req} {vt vb : Value}
theorem wpList_rq_box (x : Operand) (ho : o.op = .box 31 x) (hx : a.eval x = .agg (reqCells q vt vb).toArray) (hgd : o.guard = none) (hk : KeysR q) (h1 : vt.oneCell' = true) (h2 : vb.oneCell' = true)
    (h : ∀ w', ReqB w' w.heap.size q vt vb → Below w.heap.size w w' → w'.heap.size = w.heap.size + 1 → wpList Tryd.prog ops Q rest (a.put o.dst (.pointer (some ⟨w.heap.size, 0, none⟩))) w') : wpList Tryd.prog ops Q (o :: rest) a w :=
  wpList_st_box x ho _ hx hgd fun w' a1 a2 a3 => h w' ⟨a1, hk, h1, h2⟩ a2 a3
theorem wpList_rq_zero (ho : o.op = .alloc 31) (hgd : o.guard = none)
    (h : ∀ w', ReqB w' w.heap.size req0 (.slice none 0 0) (.slice none 0 0) → Below w.heap.size w w' → w'.heap.size = w.heap.size + 1 → wpList Tryd.prog ops Q rest (a.put o.dst (.pointer (some ⟨w.heap.size, 0, none⟩))) w') : wpList Tryd.prog ops Q (o :: rest) a w :=
  wpList_alloc_blk hgd _ ho _ zero_req fun w' h1 h2 h3 => h w' ⟨h1, req0_keys, rfl, rfl⟩ h2 h3
theorem wpList_rq_kind (x : Operand) (ho : o.op = .load 3 x) (hx : a.eval x = .pointer (some ⟨g, 0, none⟩)) (hw : Region.wanted o (yielded ops a.tmps) = true) (hB : ReqB w g q vt vb)
    (h : wpList Tryd.prog ops Q rest (a.put o.dst (.int .i64 q.kind)) w) : wpList Tryd.prog ops Q (o :: rest) a w :=
  wpList_st_get _ x ho 0 hx hw hB.blk _ Tryd.underlying3 rfl _ rq_kind h
theorem wpList_rq_ends (x : Operand) (ho : o.op = .load 3 x) (hx : a.eval x = .pointer (some ⟨g, 33, none⟩)) (hw : Region.wanted o (yielded ops a.tmps) = true) (hB : ReqB w g q vt vb)
    (h : wpList Tryd.prog ops Q rest (a.put o.dst (.int .i64 q.ends)) w) : wpList Tryd.prog ops Q (o :: rest) a w :=
  wpList_st_get _ x ho 33 hx hw hB.blk _ Tryd.underlying3 rfl _ (rq_ends hB.keys) h
theorem wpList_rq_tests (x : Operand) (ho : o.op = .load 29 x) (hx : a.eval x = .pointer (some ⟨g, 50, none⟩)) (hw : Region.wanted o (yielded ops a.tmps) = true) (hB : ReqB w g q vt vb)
    (h : wpList Tryd.prog ops Q rest (a.put o.dst vt) w) : wpList Tryd.prog ops Q (o :: rest) a w :=
  wpList_st_get _ x ho 50 hx hw hB.blk _ Tryd.underlying29 rfl _ (rq_tests hB.keys) h
theorem wpList_rq_blobs (x : Operand) (ho : o.op = .load 23 x) (hx : a.eval x = .pointer (some ⟨g, 51, none⟩)) (hw : Region.wanted o (yielded ops a.tmps) = true) (hB : ReqB w g q vt vb)
    (h : wpList Tryd.prog ops Q rest (a.put o.dst vb) w) : wpList Tryd.prog ops Q (o :: rest) a w :=
  wpList_st_get _ x ho 51 hx hw hB.blk _ Tryd.underlying23 rfl _ (rq_blobs hB.keys) h
theorem wpList_rq_index (x : Operand) (ho : o.op = .load 28 x) (hx : a.eval x = .pointer (some ⟨g, 1, none⟩)) (hw : Region.wanted o (yielded ops a.tmps) = true) (hB : ReqB w g q vt vb)
    (h : wpList Tryd.prog ops Q rest (a.put o.dst (.agg (u8s q.index).toArray)) w) : wpList Tryd.prog ops Q (o :: rest) a w :=
  wpList_go hw fun _ hK => wp_load_mid _ x ho g 1 hx _ _ hB.indexR Tryd.underlying28 rfl (by rw [u8s_len, hB.keys.i]; exact size_key16) (hK _ _ h)
theorem wpList_rq_secret (x : Operand) (ho : o.op = .load 28 x) (hx : a.eval x = .pointer (some ⟨g, 17, none⟩)) (hw : Region.wanted o (yielded ops a.tmps) = true) (hB : ReqB w g q vt vb)
    (h : wpList Tryd.prog ops Q rest (a.put o.dst (.agg (u8s q.secret).toArray)) w) : wpList Tryd.prog ops Q (o :: rest) a w :=
  wpList_go hw fun _ hK => wp_load_mid _ x ho g 17 hx _ _ hB.secretR Tryd.underlying28 rfl (by rw [u8s_len, hB.keys.s]; exact size_key16) (hK _ _ h)
theorem wpList_rq_enable (x : Operand) (ho : o.op = .load 28 x) (hx : a.eval x = .pointer (some ⟨g, 34, none⟩)) (hw : Region.wanted o (yielded ops a.tmps) = true) (hB : ReqB w g q vt vb)
    (h : wpList Tryd.prog ops Q rest (a.put o.dst (.agg (u8s q.enable).toArray)) w) : wpList Tryd.prog ops Q (o :: rest) a w :=
  wpList_go hw fun _ hK => wp_load_mid _ x ho g 34 hx _ _ hB.enableR Tryd.underlying28 rfl (by rw [u8s_len, hB.keys.e]; exact size_key16) (hK _ _ h)
theorem wpList_rq_all (x : Operand) (ho : o.op = .load 31 x) (hx : a.eval x = .pointer (some ⟨g, 0, none⟩)) (hw : Region.wanted o (yielded ops a.tmps) = true) (hB : ReqB w g q vt vb)
    (h : wpList Tryd.prog ops Q rest (a.put o.dst (.agg (reqCells q vt vb).toArray)) w) : wpList Tryd.prog ops Q (o :: rest) a w :=
  wpList_st_all _ x ho hx hw hB.blk _ Tryd.underlying31 rfl (by rw [rq_len hB.keys]; exact size_req) h
theorem wpList_rq_putT (x y : Operand) (ho : o.op = .store 29 x y) (hx : a.eval x = .pointer (some ⟨g, 50, none⟩)) (hgd : o.guard = none) (hB : ReqB w g q vt vb) (v : Value) (hy : a.eval y = v) (h1 : v.oneCell' = true)
    (h : ∀ w', ReqB w' g q v vb → w.grownBy w' (some g) → w'.heap.size = w.heap.size → wpList Tryd.prog ops Q rest (a.put o.dst undef) w') : wpList Tryd.prog ops Q (o :: rest) a w :=
  wpList_st_put _ x y ho 50 hx hgd hB.blk (by rw [rq_len hB.keys]; omega) v hy h1 size_tests fun w' a1 a2 a3 => h w' ⟨by rw [rq_setT hB.keys] at a1; exact a1, hB.keys, h1, hB.oneB⟩ a2 a3
theorem wpList_rq_putB (x y : Operand) (ho : o.op = .store 23 x y) (hx : a.eval x = .pointer (some ⟨g, 51, none⟩)) (hgd : o.guard = none) (hB : ReqB w g q vt vb) (v : Value) (hy : a.eval y = v) (h1 : v.oneCell' = true)
    (h : ∀ w', ReqB w' g q vt v → w.grownBy w' (some g) → w'.heap.size = w.heap.size → wpList Tryd.prog ops Q rest (a.put o.dst undef) w') : wpList Tryd.prog ops Q (o :: rest) a w :=
  wpList_st_put _ x y ho 51 hx hgd hB.blk (by rw [rq_len hB.keys]; omega) v hy h1 size_blobs' fun w' a1 a2 a3 => h w' ⟨by rw [rq_setB hB.keys] at a1; exact a1, hB.keys, hB.oneT, h1⟩ a2 a3
theorem wpList_rq_putK (x y : Operand) (ho : o.op = .store 3 x y) (hx : a.eval x = .pointer (some ⟨g, 0, none⟩)) (hgd : o.guard = none) (hB : ReqB w g q vt vb) (n : Int) (hy : a.eval y = .int .i64 n)
    (h : ∀ w', ReqB w' g { q with kind := n } vt vb → w.grownBy w' (some g) → w'.heap.size = w.heap.size → wpList Tryd.prog ops Q rest (a.put o.dst undef) w') : wpList Tryd.prog ops Q (o :: rest) a w :=
  wpList_st_put _ x y ho 0 hx hgd hB.blk (by rw [rq_len hB.keys]; omega) _ hy rfl size_int fun w' a1 a2 a3 => h w' ⟨by rw [rq_setK] at a1; exact a1, ⟨hB.keys.i, hB.keys.s, hB.keys.e⟩, hB.oneT, hB.oneB⟩ a2 a3
theorem wpList_rq_putE (x y : Operand) (ho : o.op = .store 3 x y) (hx : a.eval x = .pointer (some ⟨g, 33, none⟩)) (hgd : o.guard = none) (hB : ReqB w g q vt vb) (n : Int) (hy : a.eval y = .int .i64 n)
    (h : ∀ w', ReqB w' g { q with ends := n } vt vb → w.grownBy w' (some g) → w'.heap.size = w.heap.size → wpList Tryd.prog ops Q rest (a.put o.dst undef) w') : wpList Tryd.prog ops Q (o :: rest) a w :=
  wpList_st_put _ x y ho 33 hx hgd hB.blk (by rw [rq_len hB.keys]; omega) _ hy rfl size_int fun w' a1 a2 a3 => h w' ⟨by rw [rq_setE hB.keys] at a1; exact a1, ⟨hB.keys.i, hB.keys.s, hB.keys.e⟩, hB.oneT, hB.oneB⟩ a2 a3
theorem wpList_rq_putAll (x y : Operand) (ho : o.op = .store 31 x y) (hx : a.eval x = .pointer (some ⟨g, 0, none⟩)) (hgd : o.guard = none) (hB : ReqB w g q vt vb) (q' : Msg.Req) (vt' vb' : Value) (hy : a.eval y = .agg (reqCells q' vt' vb').toArray) (hk : KeysR q') (h1 : vt'.oneCell' = true) (h2 : vb'.oneCell' = true)
    (h : ∀ w', ReqB w' g q' vt' vb' → w.grownBy w' (some g) → w'.heap.size = w.heap.size → wpList Tryd.prog ops Q rest (a.put o.dst undef) w') : wpList Tryd.prog ops Q (o :: rest) a w :=
  wpList_st_putAll _ x y ho hx hgd hB.blk _ hy (by rw [rq_len hB.keys, rq_len hk]) (by rw [rq_len hk]; exact size_req) (rq_one h1 h2) fun w' a1 a2 a3 => h w' ⟨a1, hk, h1, h2⟩ a2 a3
end
/-- A test's cells. -/
def tstC (t : Msg.Tst) : List Value := .int .i64 t.num :: .bool t.absent :: u8s t.want
/-- A slice of tests. -/
def TstsB (w : World) (B : Nat) (v : Value) (l : List Msg.Tst) : Prop := Rd w B 34 v l.length (l.flatMap tstC) ∧ ∀ t ∈ l, t.want.length = 32
section
variable {w w' : World} {B B' : Nat} {v : Value} {l : List Msg.Tst}
theorem tst_len {t : Msg.Tst} (h : t.want.length = 32) : (tstC t).length = 34 := by simp [tstC, u8s_len, h]
theorem tsts_len : ∀ (l : List Msg.Tst), (∀ t ∈ l, t.want.length = 32) → (l.flatMap tstC).length = l.length * 34
  | [], _ => rfl
  | t :: l, h => by
    rw [List.flatMap_cons, List.length_append, tst_len (h t List.mem_cons_self), tsts_len l (fun x hx => h x (List.mem_cons_of_mem _ hx)), List.length_cons]
    omega
theorem tsts_get : ∀ (l : List Msg.Tst) (h : ∀ t ∈ l, t.want.length = 32) (i : Nat) (hi : i < l.length) (j : Nat) (u : Value), (tstC l[i])[j]? = some u → (l.flatMap tstC)[i * 34 + j]? = some u
  | t :: l, h, 0, _, j, u, hu => by
    rw [Nat.zero_mul, Nat.zero_add, List.flatMap_cons, List.getElem?_append_left (by have := (List.getElem?_eq_some_iff.1 hu).1; exact this)]
    exact hu
  | t :: l, h, i + 1, hi, j, u, hu => by
    have ih := tsts_get l (fun x hx => h x (List.mem_cons_of_mem _ hx)) i (by simpa using hi) j u (by simpa using hu)
    rw [List.flatMap_cons, List.getElem?_append_right (by rw [tst_len (h t List.mem_cons_self)]; omega), tst_len (h t List.mem_cons_self), show (i + 1) * 34 + j - 34 = i * 34 + j by omega]
    exact ih
theorem TstsB.below (h : TstsB w B v l) (hb : Below B' w w') (hB : B ≤ B') : TstsB w' B v l := ⟨h.1.belowM hb hB, h.2⟩
theorem TstsB.more (h : TstsB w B v l) (hB : B ≤ B') : TstsB w B' v l := ⟨h.1.more hB, h.2⟩
theorem TstsB.nil_ (w : World) (B : Nat) : TstsB w B (.slice none 0 0) [] := ⟨Rd.nil_ _ _ _, fun t ht => by cases ht⟩
theorem TstsB.open_ (h : TstsB w B v l) : ∃ (A : Option Addr) (c : Nat), v = .slice A l.length c ∧ l.length ≤ c ∧ c ≤ maxLen ∧
    (0 < l.length → ∃ b o, A = some ⟨b, o, none⟩ ∧ b < B ∧ ∀ i (hi : i < l.length), w.rangeAt b (o + i * 34) (tstC l[i])) := by
  obtain ⟨⟨A, c, rfl, h1, h2, h4, h3⟩, hw⟩ := h
  refine ⟨A, c, rfl, h1, h2, fun hp => ?_⟩
  obtain ⟨b, o, rfl, hb, hc⟩ := h3 hp
  refine ⟨b, o, rfl, hb, fun i hi j u hu => ?_⟩
  rw [Nat.add_assoc]
  exact hc _ u (tsts_get l hw i hi j u hu)
theorem TstsB.take {A : Option Addr} {n c : Nat} (h : TstsB w B (.slice A n c) l) (k : Nat) (hk : k ≤ l.length) : TstsB w B (.slice A k c) (l.take k) := by
  obtain ⟨⟨A', c', e, h1, h2, h4, h3⟩, hw⟩ := h
  injection e with e1 e2 e3
  subst e1 e2 e3
  have hl : (l.take k).length = k := by rw [List.length_take]; omega
  have hw' : ∀ t ∈ l.take k, t.want.length = 32 := fun t ht => hw t (List.mem_of_mem_take ht)
  refine ⟨⟨A, c, by rw [hl], by omega, h2, tsts_len _ hw', fun hp => ?_⟩, hw'⟩
  obtain ⟨b, o, rfl, hb, hc⟩ := h3 (by omega)
  refine ⟨b, o, rfl, hb, fun j u hu => hc j u ?_⟩
  have e : l.flatMap tstC = (l.take k).flatMap tstC ++ (l.drop k).flatMap tstC := by rw [← List.flatMap_append, List.take_append_drop]
  rw [e, List.getElem?_append_left (List.getElem?_eq_some_iff.1 hu).1]
  exact hu
theorem TstsB.one (h : TstsB w B v l) : v.oneCell' = true := by
  obtain ⟨A, c, rfl, _⟩ := h.open_
  rfl
end
theorem OwnBlbs.one {w : World} {base : Nat} {v : Value} {l : List Msg.Blb} (h : OwnBlbs w base v l) : v.oneCell' = true := by
  obtain ⟨A, c, rfl⟩ := h.shape
  rfl
end Go.Proofs.YtfinfkodjkfibaaDoor

namespace Go.Proofs.YtfinfkodjkfibaaDoor
open Go Go.RowKit
set_option linter.unusedVariables false
set_option linter.unusedSimpArgs false
set_option maxRecDepth 100000
set_option maxHeartbeats 400000 in
theorem cut_tests (v : Value) (xs : List Msg.Tst) (n : Int) (w : World) (B : Nat) (h : TstsB w B v xs) (h0 : 0 ≤ n) (hn : n ≤ 1000000) :
    Calls Tryd.prog 26 #[v, .int .i64 n] w (GivesB fun v' w' => TstsB w B v' (xs.take n.toNat) ∧ w = w') := by
  obtain ⟨n, rfl⟩ := Int.eq_ofNat_of_zero_le h0
  rw [Int.toNat_natCast]
  obtain ⟨A, c, rfl, h1, h2, h3⟩ := h.open_
  unfold maxLen at h2
  have H := hide h
  clear h3 h
  go_enter Tryd.func26, Tryd.ntmps26
  go_wp2
  go_ret
  refine ⟨_, rfl, ?_, rfl⟩
  show TstsB w B (.slice A (min (xs.length : Int) (n : Int)).toNat c) (xs.take n)
  rcases Nat.le_total n xs.length with hc | hc
  · rw [show (min (xs.length : Int) (n : Int)).toNat = n by omega]
    exact H.out.take n hc
  · rw [show (min (xs.length : Int) (n : Int)).toNat = xs.length by omega, List.take_of_length_le hc]
    exact H.out
theorem cellsB_take : ∀ (k : Nat) (ns : List Int) (us : List Value) (j : Nat) (u : Value), ns.length = us.length → (cellsB (ns.take k) (us.take k))[j]? = some u → (cellsB ns us)[j]? = some u
  | 0, _, _, _, _, _, h => by simp [cellsB] at h
  | k + 1, [], us, j, u, _, h => by simp [cellsB] at h
  | k + 1, n :: ns, [], j, u, hl, _ => by simp at hl
  | k + 1, n :: ns, v :: us, j, u, hl, h => by
    have e : cellsB (n :: ns) (v :: us) = .int .i64 n :: v :: cellsB ns us := rfl
    have e2 : cellsB ((n :: ns).take (k + 1)) ((v :: us).take (k + 1)) = .int .i64 n :: v :: cellsB (ns.take k) (us.take k) := rfl
    rw [e]
    rw [e2] at h
    match j, h with
    | 0, h => exact h
    | 1, h => exact h
    | j + 2, h => exact cellsB_take k ns us j u (by simpa using hl) h
theorem BlbsB.take {w : World} {B : Nat} {l : List Msg.Blb} {A : Option Addr} {n c : Nat} (h : BlbsB w B (.slice A n c) l) (k : Nat) (hk : k ≤ l.length) : BlbsB w B (.slice A k c) (l.take k) := by
  obtain ⟨us, hul, ⟨A', c', e, h1, h2, h4, h3⟩, hr⟩ := h
  injection e with e1 e2 e3
  subst e1 e2 e3
  have hl : (l.take k).length = k := by rw [List.length_take]; omega
  refine ⟨us.take k, by rw [List.length_take, List.length_take]; omega, ⟨A, c, by rw [hl], by omega, h2, ?_, fun hp => ?_⟩, fun i hi => ?_⟩
  · rw [cellsB_len _ _ (by simp; omega), List.length_take, hl]; omega
  · obtain ⟨b, o, rfl, hb, hc⟩ := h3 (by omega)
    refine ⟨b, o, rfl, hb, fun j u hu => hc j u ?_⟩
    rw [List.map_take] at hu
    exact cellsB_take k _ _ j u (by simp [hul]) hu
  · rw [hl] at hi
    obtain ⟨u, hu, hx⟩ := hr i (by omega)
    exact ⟨u, by rw [List.getElem?_take_of_lt hi]; exact hu, by rw [List.getElem_take]; exact hx⟩
set_option maxHeartbeats 400000 in
theorem cut_blobs (v : Value) (xs : List Msg.Blb) (n : Int) (w : World) (B : Nat) (h : BlbsB w B v xs) (h0 : 0 ≤ n) (hn : n ≤ 1000000) :
    Calls Tryd.prog 21 #[v, .int .i64 n] w (GivesB fun v' w' => BlbsB w B v' (xs.take n.toNat) ∧ w = w') := by
  obtain ⟨n, rfl⟩ := Int.eq_ofNat_of_zero_le h0
  rw [Int.toNat_natCast]
  obtain ⟨A, c, rfl, h1, h2, h3⟩ := h.open_
  unfold maxLen at h2
  have H := hide h
  clear h3 h
  go_enter Tryd.func21, Tryd.ntmps21
  go_wp2
  go_ret
  refine ⟨_, rfl, ?_, rfl⟩
  show BlbsB w B (.slice A (min (xs.length : Int) (n : Int)).toNat c) (xs.take n)
  rcases Nat.le_total n xs.length with hc | hc
  · rw [show (min (xs.length : Int) (n : Int)).toNat = n by omega]
    exact H.out.take n hc
  · rw [show (min (xs.length : Int) (n : Int)).toNat = xs.length by omega, List.take_of_length_le hc]
    exact H.out
end Go.Proofs.YtfinfkodjkfibaaDoor

namespace Go.Proofs.YtfinfkodjkfibaaDoor
open Go Go.RowKit
set_option linter.unusedVariables false
set_option linter.unusedSimpArgs false
set_option maxRecDepth 100000
/-- The first blobs, each cut at a hundred bytes. -/
def cutB (k : Nat) (l : List Msg.Blb) : List Msg.Blb := (l.take k).map fun x => (x.1, x.2.take 100)
theorem cutB_succ (l : List Msg.Blb) (i : Nat) (h : i < l.length) : cutB (i + 1) l = cutB i l ++ [(l[i].1, l[i].2.take 100)] := by
  unfold cutB
  rw [List.take_succ_eq_append_getElem h, List.map_append]
  rfl
theorem cutB_len (k : Nat) (l : List Msg.Blb) : (cutB k l).length ≤ k := by unfold cutB; rw [List.length_map, List.length_take]; omega
theorem cutB_all {k m : Nat} {l : List Msg.Blb} (h : l.length ≤ k) (h' : l.length ≤ m) : cutB k l = cutB m l := by
  unfold cutB; rw [List.take_of_length_le h, List.take_of_length_le h']
/-- What request answers. -/
def ReqRes (w w' : World) (e : Ending) (q : Msg.Req) (lt : List Msg.Tst) (lb : List Msg.Blb) : Prop :=
  ∃ vt vb, e = .returned (.agg (reqCells q vt vb).toArray) ∧ TstsB w' w.heap.size vt (lt.take 34) ∧ OwnBlbs w' w.heap.size vb (cutB 34 lb) ∧ Below w.heap.size w w'
theorem OwnBlbs.offT {w w' : World} {base g : Nat} {t : TypeId} {cs : List Value} {v : Value} {l : List Msg.Blb} (h : OwnBlbs w base v l) (hk : Blk w g t cs) (ht : t ≠ 44) (ht' : t ≠ 5) (hg : w.grownBy w' (some g)) (hgb : base ≤ g) (hB : base ≤ w.heap.size) : OwnBlbs w' base v l := by
  obtain ⟨us, hl, h1, h2⟩ := h
  refine ⟨us, hl, h1.kept hg (by
    have := own_ne_blk h1 hk (Ne.symm ht)
    cases ho : v.ownBlock with
    | none => exact .inl rfl
    | some k => exact .inr (by rw [ho] at this; exact fun e => this e.symm)), fun i hi => ?_⟩
  obtain ⟨u, hu, hx⟩ := h2 i hi
  refine ⟨u, hu, ?_⟩
  rcases hx with hx | hx
  · exact .inl (hx.below ((Below.refl base w).grown hg hB (by intro k hk; injection hk; omega)) (Nat.le_refl _))
  · have hne : u.ownBlock = none ∨ u.ownBlock ≠ some g := by
      have hx' := hx
      rcases hx' with ⟨h1', h2'⟩ | ⟨g', cap, cur, f, h1', _, hb, _⟩
      · rw [h1']; exact .inl rfl
      · refine .inr fun e => ?_
        rw [h1'] at e
        simp [Value.ownBlock] at e
        subst e
        unfold BlkF at hb
        unfold Blk at hk
        rw [hk] at hb
        injection hb with hb
        injection hb with _ hb _
        exact ht' hb
    exact .inr (hx.kept hg hne)
theorem ReqB.pastO {w w' : World} {g base n size : Nat} {q : Msg.Req} {vt vb v : Value} {xs : List Value} (h : ReqB w g q vt vb) (ho : w.ownsRow base 44 size v n xs) (hg : w.grownBy w' v.ownBlock) : ReqB w' g q vt vb :=
  h.grown hg (own_ne_blk ho h.blk (by decide))
theorem ReqB.pastB {w w' : World} {g base : Nat} {q : Msg.Req} {vt vb v : Value} {l : List Msg.Blb} (h : ReqB w g q vt vb) (ho : OwnBlbs w base v l) (hg : w.grownBy w' v.ownBlock) : ReqB w' g q vt vb := by
  obtain ⟨us, _, h1, _⟩ := ho
  exact h.pastO h1 hg
set_option maxHeartbeats 4000000
theorem request_any (q : Msg.Req) (vt vb : Value) (lt : List Msg.Tst) (lb : List Msg.Blb) (w : World) (hk : KeysR q) (ht : TstsB w w.heap.size vt lt) (hb : BlbsB w w.heap.size vb lb) :
    Calls Tryd.prog 8 #[.agg (reqCells q vt vb).toArray] w fun e w' => ReqRes w w' e q lt lb := by
  have HKR := hide hk
  have HT := hide ht
  have H1 := hide ht.one
  obtain ⟨A, c, rfl, h1, h2, h3⟩ := hb.open_
  unfold maxLen at h2
  have H3 := hide h3
  obtain ⟨n, HN⟩ : ∃ n, Hid (lb.length = n) := ⟨_, hide rfl⟩
  obtain ⟨VQ, HVQ⟩ : ∃ v, Hid (Value.agg (reqCells q vt (.slice A lb.length c)).toArray = v) := ⟨_, hide rfl⟩
  rw [HVQ.out]
  rw [HN.out] at h1 HVQ
  obtain ⟨g1, HG⟩ : ∃ k, Hid (w.heap.size = k) := ⟨_, hide rfl⟩
  clear hk ht hb h3
  go_enter Tryd.func8, Tryd.ntmps8
  go_wp2_with (first
    | (refine wpList_rq_box _ rfl HVQ.out.symm rfl HKR.out H1.out rfl ?_; intro w1 hb1 hw1 hs1; rw [HG.out] at hb1 hw1 hs1; try rw [HG.out]; have HQ := hide hb1; have HW := hide hw1; clear hb1 hw1)
    | (refine wpList_rq_zero rfl rfl ?_; intro w2 hb2 hw2 hs2; rw [hs1] at hb2 hw2 hs2; try rw [hs1]; have HR := hide hb2; replace HQ := hide (HQ.out.below hw2 (by omega)); replace HW := hide (HW.out.trans (hw2.mono (by omega))); clear hb2 hw2))
  have hz2 : w2.heap.size = g1 + 1 + 1 := hs2
  have hwb : w.heap.size ≤ g1 ∧ g1 ≤ w.heap.size := by have := HG.out; omega
  clear hs1 hs2
  go_loopw [3, 4] (fun v3 v4 wr => ∃ i : Nat, v4 = .int .i64 (i : Int) ∧ (i ≤ n ∧ i ≤ 34) ∧ OwnBlbs wr w.heap.size v3 (cutB i lb) ∧ ReqB wr g1 q vt (.slice A n c) ∧ ReqB wr (g1 + 1) req0 (.slice none 0 0) (.slice none 0 0) ∧ Below w.heap.size w wr) (fun _ v4 _ => 34 - (intOf v4).toNat)
  case atStart => exact ⟨0, by go_num, by omega, OwnBlbs.nil_ _ _, HQ.out, HR.out, HW.out.mono (by omega)⟩
  case round =>
    obtain ⟨i, rfl, hin, ho, hq, hr, hbel⟩ := hrel
    have HO := hide ho
    have HB := hide hbel
    have hbs := hbel.size
    have HQr := hide hq
    have HRr := hide hr
    have hgg : g1 + 1 < wr.heap.size := hr.lt
    clear ho hbel hq hr
    by_cases hlt : i < n
    · have i1 : (i : Int) < (n : Int) := by omega
      by_cases h34 : i < 34
      · have i2 : (i : Int) < 34 := by omega
        obtain ⟨bb, oo, rfl, hbb0, hcc⟩ := H3.out (by rw [HN.out]; omega)
        have hbb := hbb0
        obtain ⟨hc1, u, hc2, hu⟩ := hcc i (by rw [HN.out]; exact hlt)
        have HSN := hide (cutB_succ lb i (by rw [HN.out]; exact hlt))
        obtain ⟨x, HX⟩ : ∃ x, Hid (lb[i]'(by rw [HN.out]; exact hlt) = x) := ⟨_, hide rfl⟩
        rw [HX.out] at hc1 hu HSN
        obtain ⟨X, x2⟩ := x
        simp only at hc1 hu HSN
        have HC1 := hide hc1
        have HC2 := hide hc2
        have HCUT := hide (fun (w' : World) (hS : Below w.heap.size w w') => cut_bytes u x2 100 w' w.heap.size (hu.below hS (Nat.le_refl _)) (by omega) (by omega))
        obtain ⟨xc, HXC⟩ : ∃ x, Hid (x2.take 100 = x) := ⟨_, hide rfl⟩
        rw [HXC.out] at HSN
        rw [show x2.take (100 : Int).toNat = xc from HXC.out] at HCUT
        have HLN := hide (show (cutB i lb).length ≤ 1000000 by have := cutB_len i lb; omega)
        clear hcc hc1 hc2 hu HX HXC
        go_upto_region 5 with (first
          | go_skip
          | (refine wpList_rq_blobs _ rfl rfl rfl HQr.out ?_))
        generalize HVV : u3 = V at HO ⊢
        clear HVV
        refine wp_region_held_drew (S := fun w' => ReqB w' g1 q vt (.slice (some ⟨bb, oo, none⟩) n c) ∧ ReqB w' (g1 + 1) req0 (.slice none 0 0) (.slice none 0 0) ∧ Below w.heap.size w w') (by kernel_rfl) ⟨HQr.out.drew, HRr.out.drew, HB.out.drew⟩ (fun hHeld => ?_)
        replace HO := hide (HO.out.keptB (Below.refl _ _).drew HB.out.size)
        refine take_d 16 (i := 0) (v := V) rfl (by kernel_rfl) (by kernel_rfl) (by kernel_rfl) (by kernel_rfl) (fun _ _ _ h => h) (Or.inl ⟨by kernel_rfl, fun w' hS => exec_move _ rfl (V) rfl⟩) hHeld ?_
        try simp only [Act.put, List.setIfInBounds_toArray, List.set_cons_zero, List.set_cons_succ]
        refine take_d 17 (i := 1) (v := .pointer (some ⟨g1, 51, none⟩)) rfl (by kernel_rfl) (by kernel_rfl) (by kernel_rfl) (by kernel_rfl) (fun _ _ _ h => h) (Or.inl ⟨by kernel_rfl, fun w' hS => exec_fieldG _ _ 6 51 rfl g1 0 rfl (by kernel_rfl) _ (by first | rfl | omega)⟩) hHeld ?_
        try simp only [Act.put, List.setIfInBounds_toArray, List.set_cons_zero, List.set_cons_succ]
        refine take_d 18 (i := 2) (v := .slice (some ⟨bb, oo, none⟩) n c) rfl (by kernel_rfl) (by kernel_rfl) (by kernel_rfl) (by kernel_rfl) (fun _ _ _ h => h) (Or.inl ⟨by kernel_rfl, fun w' hS => exec_load_one _ _ rfl g1 51 rfl _ Tryd.underlying23 rfl _ (by rw [hS.1.blk.cell]; exact rq_blobs hS.1.keys)⟩) hHeld ?_
        try simp only [Act.put, List.setIfInBounds_toArray, List.set_cons_zero, List.set_cons_succ]
        refine take_d 19 (i := 3) (v := .int .i64 ((i : Int))) rfl (by kernel_rfl) (by kernel_rfl) (by kernel_rfl) (by kernel_rfl) (fun _ _ _ h => h) (Or.inl ⟨by kernel_rfl, fun w' hS => exec_move _ rfl (.int .i64 ((i : Int))) rfl⟩) hHeld ?_
        try simp only [Act.put, List.setIfInBounds_toArray, List.set_cons_zero, List.set_cons_succ]
        refine take_d 20 (i := 4) (v := .pointer (some ⟨bb, oo + i * 2, none⟩)) rfl (by kernel_rfl) (by kernel_rfl) (by kernel_rfl) (by kernel_rfl) (fun _ _ _ h => h) (Or.inl ⟨by kernel_rfl, fun w' hS => exec_indexG _ _ _ rfl _ n c bb oo 2 i rfl rfl rfl (by omega) (by kernel_rfl) _ (by omega)⟩) hHeld ?_
        try simp only [Act.put, List.setIfInBounds_toArray, List.set_cons_zero, List.set_cons_succ]
        refine take_d 21 (i := 5) (v := .pointer (some ⟨bb, oo + i * 2, none⟩)) rfl (by kernel_rfl) (by kernel_rfl) (by kernel_rfl) (by kernel_rfl) (fun _ _ _ h => h) (Or.inl ⟨by kernel_rfl, fun w' hS => exec_fieldG _ _ 0 0 rfl bb (oo + i * 2) rfl (by kernel_rfl) _ (by first | rfl | omega)⟩) hHeld ?_
        try simp only [Act.put, List.setIfInBounds_toArray, List.set_cons_zero, List.set_cons_succ]
        refine take_d 22 (i := 6) (v := .int .i64 X) rfl (by kernel_rfl) (by kernel_rfl) (by kernel_rfl) (by kernel_rfl) (fun _ _ _ h => h) (Or.inl ⟨by kernel_rfl, fun w' hS => exec_load_one _ _ rfl bb (oo + i * 2) rfl _ Tryd.underlying3 rfl _ ((hS.2.2.cell (p := ⟨bb, oo + i * 2, none⟩) hbb).trans HC1.out)⟩) hHeld ?_
        try simp only [Act.put, List.setIfInBounds_toArray, List.set_cons_zero, List.set_cons_succ]
        refine take_d 23 (i := 7) (v := .pointer (some ⟨g1, 51, none⟩)) rfl (by kernel_rfl) (by kernel_rfl) (by kernel_rfl) (by kernel_rfl) (fun _ _ _ h => h) (Or.inl ⟨by kernel_rfl, fun w' hS => exec_fieldG _ _ 6 51 rfl g1 0 rfl (by kernel_rfl) _ (by first | rfl | omega)⟩) hHeld ?_
        try simp only [Act.put, List.setIfInBounds_toArray, List.set_cons_zero, List.set_cons_succ]
        refine take_d 24 (i := 8) (v := .slice (some ⟨bb, oo, none⟩) n c) rfl (by kernel_rfl) (by kernel_rfl) (by kernel_rfl) (by kernel_rfl) (fun _ _ _ h => h) (Or.inl ⟨by kernel_rfl, fun w' hS => exec_load_one _ _ rfl g1 51 rfl _ Tryd.underlying23 rfl _ (by rw [hS.1.blk.cell]; exact rq_blobs hS.1.keys)⟩) hHeld ?_
        try simp only [Act.put, List.setIfInBounds_toArray, List.set_cons_zero, List.set_cons_succ]
        refine take_d 25 (i := 9) (v := .int .i64 ((i : Int))) rfl (by kernel_rfl) (by kernel_rfl) (by kernel_rfl) (by kernel_rfl) (fun _ _ _ h => h) (Or.inl ⟨by kernel_rfl, fun w' hS => exec_move _ rfl (.int .i64 ((i : Int))) rfl⟩) hHeld ?_
        try simp only [Act.put, List.setIfInBounds_toArray, List.set_cons_zero, List.set_cons_succ]
        refine take_d 26 (i := 10) (v := .pointer (some ⟨bb, oo + i * 2, none⟩)) rfl (by kernel_rfl) (by kernel_rfl) (by kernel_rfl) (by kernel_rfl) (fun _ _ _ h => h) (Or.inl ⟨by kernel_rfl, fun w' hS => exec_indexG _ _ _ rfl _ n c bb oo 2 i rfl rfl rfl (by omega) (by kernel_rfl) _ (by omega)⟩) hHeld ?_
        try simp only [Act.put, List.setIfInBounds_toArray, List.set_cons_zero, List.set_cons_succ]
        refine take_d 27 (i := 11) (v := .pointer (some ⟨bb, oo + i * 2 + 1, none⟩)) rfl (by kernel_rfl) (by kernel_rfl) (by kernel_rfl) (by kernel_rfl) (fun _ _ _ h => h) (Or.inl ⟨by kernel_rfl, fun w' hS => exec_fieldG _ _ 1 1 rfl bb (oo + i * 2) rfl (by kernel_rfl) _ (by first | rfl | omega)⟩) hHeld ?_
        try simp only [Act.put, List.setIfInBounds_toArray, List.set_cons_zero, List.set_cons_succ]
        refine take_d 28 (i := 12) (v := u) rfl (by kernel_rfl) (by kernel_rfl) (by kernel_rfl) (by kernel_rfl) (fun _ _ _ h => h) (Or.inl ⟨by kernel_rfl, fun w' hS => exec_load_one _ _ rfl bb (oo + i * 2 + 1) rfl _ Tryd.underlying26 rfl _ ((hS.2.2.cell (p := ⟨bb, oo + i * 2 + 1, none⟩) hbb).trans HC2.out)⟩) hHeld ?_
        try simp only [Act.put, List.setIfInBounds_toArray, List.set_cons_zero, List.set_cons_succ]
        refine wpAnyH_ready (rs := [13]) (by kernel_rfl) (by simp) (AllReadyH.cons rfl (fun K hK => ?_) AllReadyH.nil)
        rw [if_pos (by kernel_rfl)]
        try go_simp
        refine (HCUT.out _ hHeld.2.2).mono ?_
        rintro e wq ⟨v29, rfl, hv29, rfl⟩
        have HN := hide (show ElB _ w.heap.size v29 _ from .inl hv29)
        obtain ⟨A29, c29, rfl, _, _, _⟩ := hv29.open_
        have HX := hide hHeld
        clear hv29
        refine hK.out _ _ HX.out (fun hHeld => ?_)
        clear HX hK K
        try simp only [Act.put, List.setIfInBounds_toArray, List.set_cons_zero, List.set_cons_succ]
        refine take_d 30 (i := 14) (v := .agg [Value.int .i64 X, .slice A29 xc.length c29].toArray) rfl (by kernel_rfl) (by kernel_rfl) (by kernel_rfl) (by kernel_rfl) (fun _ _ _ h => h) (Or.inl ⟨by kernel_rfl, fun w' hS => exec_build2 _ _ _ _ _ rfl _ _ rfl rfl [Value.int .i64 X, .slice A29 xc.length c29] (built_blob X A29 xc.length c29)⟩) hHeld ?_
        try simp only [Act.put, List.setIfInBounds_toArray, List.set_cons_zero, List.set_cons_succ]
        refine wpAnyH_ready (rs := [15]) (by kernel_rfl) (by simp) (AllReadyH.cons rfl (fun K hK => ?_) AllReadyH.nil)
        rw [if_pos (by kernel_rfl)]
        refine wp_blob1D 31 rfl _ rfl X (.slice A29 xc.length c29) rfl ?_
        intro g31 w31 hg31 hk31 hb31
        replace HO := hide (HO.out.keptB hb31 hHeld.2.2.size)
        have HX := hide (show ReqB _ g1 q vt (.slice (some ⟨bb, oo, none⟩) n c) ∧ ReqB _ (g1 + 1) req0 (.slice none 0 0) (.slice none 0 0) ∧ Below w.heap.size w _ from ⟨hHeld.1.below hb31 hHeld.1.lt, hHeld.2.1.below hb31 hHeld.2.1.lt, hHeld.2.2.trans (hb31.mono hHeld.2.2.size)⟩)
        replace HN := hide (HN.out.keptB hb31 hHeld.2.2.size)
        have HK := hide hk31
        clear hk31 hb31 hg31
        refine hK.out _ _ HX.out (fun hHeld => ?_)
        clear HX hK K
        try simp only [Act.put, List.setIfInBounds_toArray, List.set_cons_zero, List.set_cons_succ]
        refine wpAnyH_ready (rs := [16]) (by kernel_rfl) (by simp) (AllReadyH.cons rfl (fun K hK => ?_) AllReadyH.nil)
        rw [if_pos (by kernel_rfl)]
        refine wp_append_blobD 32 rfl _ _ rfl w.heap.size V _ rfl HO.out hHeld.2.2.size HLN.out g31 X _ xc rfl HK.out HN.out ?_
        intro v32 w32 ho32 hg32 hbz
        have HX := hide (show ReqB w32 g1 q vt (.slice (some ⟨bb, oo, none⟩) n c) ∧ ReqB w32 (g1 + 1) req0 (.slice none 0 0) (.slice none 0 0) ∧ Below w.heap.size w w32 from ⟨hHeld.1.pastB HO.out hg32, hHeld.2.1.pastB HO.out hg32, hHeld.2.2.grown hg32 hHeld.2.2.size hbz⟩)
        have HO2 := hide ho32
        clear ho32 hg32 hbz
        refine hK.out _ _ HX.out (fun hHeld => ?_)
        clear HX hK K
        try simp only [Act.put, List.setIfInBounds_toArray, List.set_cons_zero, List.set_cons_succ]
        refine take_d 3 (i := 17) (v := v32) rfl (by kernel_rfl) (by kernel_rfl) (by kernel_rfl) (by kernel_rfl) (fun _ _ _ h => h) (Or.inl ⟨by kernel_rfl, fun w' hS => exec_assign _ rfl (v32) rfl⟩) hHeld ?_
        try simp only [Act.put, List.setIfInBounds_toArray, List.set_cons_zero, List.set_cons_succ]
        refine wpAnyH_done (by kernel_rfl) ?_ _
        go_wp2_with fail
        go_roundw
        case measure => simp [intOf]; omega
        case rel => exact ⟨i + 1, by go_num, by omega, by rw [HSN.out]; exact HO2.out, hHeld.1, hHeld.2.1, hHeld.2.2⟩
      · have i2 : ¬ (i : Int) < 34 := by omega
        have HCC := hide (show cutB i lb = cutB 34 lb from by rw [show i = 34 by omega])
        have HOB := hide (show OwnBlbs wr w.heap.size u3 (cutB 34 lb) by rw [← HCC.out]; exact HO.out)
        have HOO := hide HO.out.one
        have HBW := HB
        have HCT := hide (fun (w' : World) => cut_tests vt lt 34 w' w.heap.size)
        have HTr := hide (HT.out.below HBW.out (Nat.le_refl _))
        clear HR HQ HB HO
        go_wp2_with (first
          | go_skip
          | (refine wpList_rq_blobs _ rfl rfl rfl HQr.out ?_)
          | (refine wpList_rq_tests _ rfl rfl rfl HQr.out ?_))
        refine (HCT.out wr HTr.out (by omega) (by omega)).mono ?_
        rintro e wq ⟨v36, rfl, hv36, rfl⟩
        have HV := hide hv36
        have HO1 := hide hv36.one
        clear hv36
        go_wp2_with (first
          | (refine wpList_rq_putB _ _ rfl rfl rfl HQr.out _ rfl HOO.out ?_; intro w5 hb5 hg5 hs5; have HQr0 := HQr; replace HQr := hide hb5; replace HBW := hide (HBW.out.grown hg5 (by omega) (by intro k hk; injection hk; omega)); replace HV := hide (HV.out.below (show Below w.heap.size wr w5 from (Below.refl _ _).grown hg5 (by omega) (by intro k hk; injection hk; omega)) (Nat.le_refl _)); replace HOB := hide (HOB.out.offT HQr0.out.blk (by decide) (by decide) hg5 (by omega) (by omega)); replace HRr := hide (HRr.out.grown hg5 (by intro e; injection e; omega)); clear hb5 hg5 HQr0)
          | (refine wpList_rq_putT _ _ rfl rfl rfl HQr.out _ rfl HO1.out ?_; intro w6 hb6 hg6 hs6; have HQr0 := HQr; replace HQr := hide hb6; replace HBW := hide (HBW.out.grown hg6 (by omega) (by intro k hk; injection hk; omega)); replace HV := hide (HV.out.below (show Below w.heap.size w5 w6 from (Below.refl _ _).grown hg6 (by omega) (by intro k hk; injection hk; omega)) (Nat.le_refl _)); replace HOB := hide (HOB.out.offT HQr0.out.blk (by decide) (by decide) hg6 (by omega) (by omega)); replace HRr := hide (HRr.out.grown hg6 (by intro e; injection e; omega)); clear hb6 hg6 HQr0)
          | (refine wpList_rq_all _ rfl rfl rfl HQr.out ?_)
          | (refine wpList_rq_putAll _ _ rfl rfl rfl HRr.out q v36 u3 rfl HKR.out HO1.out HOO.out ?_; intro w7 hb7 hg7 hs7; have HRr0 := HRr; replace HRr := hide hb7; replace HBW := hide (HBW.out.grown hg7 (by omega) (by intro k hk; injection hk; omega)); replace HV := hide (HV.out.below (show Below w.heap.size w6 w7 from (Below.refl _ _).grown hg7 (by omega) (by intro k hk; injection hk; omega)) (Nat.le_refl _)); replace HOB := hide (HOB.out.offT HRr0.out.blk (by decide) (by decide) hg7 (by omega) (by omega)); clear hb7 hg7 HRr0))
        refine bodyPost_ret (v := .agg (reqCells q v36 u3).toArray) (results_cell_row rfl _ _ (g1 + 1) 31 (reqCells q v36 u3).toArray (0, 0) _ rfl HRr.out.blk Tryd.underlying31 rfl (by rw [List.size_toArray, rq_len HKR.out]; exact size_req)) rfl ?_
        exact ⟨_, _, rfl, HV.out, HOB.out, HBW.out⟩
    · have i1 : ¬ (i : Int) < (n : Int) := by omega
      have HCC := hide (show cutB i lb = cutB 34 lb from cutB_all (by rw [HN.out]; omega) (by rw [HN.out]; omega))
      have HOB := hide (show OwnBlbs wr w.heap.size u3 (cutB 34 lb) by rw [← HCC.out]; exact HO.out)
      have HOO := hide HO.out.one
      have HBW := HB
      have HCT := hide (fun (w' : World) => cut_tests vt lt 34 w' w.heap.size)
      have HTr := hide (HT.out.below HBW.out (Nat.le_refl _))
      clear HR HQ HB HO
      go_wp2_with (first
        | go_skip
        | (refine wpList_rq_blobs _ rfl rfl rfl HQr.out ?_)
        | (refine wpList_rq_tests _ rfl rfl rfl HQr.out ?_))
      refine (HCT.out wr HTr.out (by omega) (by omega)).mono ?_
      rintro e wq ⟨v36, rfl, hv36, rfl⟩
      have HV := hide hv36
      have HO1 := hide hv36.one
      clear hv36
      go_wp2_with (first
        | (refine wpList_rq_putB _ _ rfl rfl rfl HQr.out _ rfl HOO.out ?_; intro w5 hb5 hg5 hs5; have HQr0 := HQr; replace HQr := hide hb5; replace HBW := hide (HBW.out.grown hg5 (by omega) (by intro k hk; injection hk; omega)); replace HV := hide (HV.out.below (show Below w.heap.size wr w5 from (Below.refl _ _).grown hg5 (by omega) (by intro k hk; injection hk; omega)) (Nat.le_refl _)); replace HOB := hide (HOB.out.offT HQr0.out.blk (by decide) (by decide) hg5 (by omega) (by omega)); replace HRr := hide (HRr.out.grown hg5 (by intro e; injection e; omega)); clear hb5 hg5 HQr0)
        | (refine wpList_rq_putT _ _ rfl rfl rfl HQr.out _ rfl HO1.out ?_; intro w6 hb6 hg6 hs6; have HQr0 := HQr; replace HQr := hide hb6; replace HBW := hide (HBW.out.grown hg6 (by omega) (by intro k hk; injection hk; omega)); replace HV := hide (HV.out.below (show Below w.heap.size w5 w6 from (Below.refl _ _).grown hg6 (by omega) (by intro k hk; injection hk; omega)) (Nat.le_refl _)); replace HOB := hide (HOB.out.offT HQr0.out.blk (by decide) (by decide) hg6 (by omega) (by omega)); replace HRr := hide (HRr.out.grown hg6 (by intro e; injection e; omega)); clear hb6 hg6 HQr0)
        | (refine wpList_rq_all _ rfl rfl rfl HQr.out ?_)
        | (refine wpList_rq_putAll _ _ rfl rfl rfl HRr.out q v36 u3 rfl HKR.out HO1.out HOO.out ?_; intro w7 hb7 hg7 hs7; have HRr0 := HRr; replace HRr := hide hb7; replace HBW := hide (HBW.out.grown hg7 (by omega) (by intro k hk; injection hk; omega)); replace HV := hide (HV.out.below (show Below w.heap.size w6 w7 from (Below.refl _ _).grown hg7 (by omega) (by intro k hk; injection hk; omega)) (Nat.le_refl _)); replace HOB := hide (HOB.out.offT HRr0.out.blk (by decide) (by decide) hg7 (by omega) (by omega)); clear hb7 hg7 HRr0))
      refine bodyPost_ret (v := .agg (reqCells q v36 u3).toArray) (results_cell_row rfl _ _ (g1 + 1) 31 (reqCells q v36 u3).toArray (0, 0) _ rfl HRr.out.blk Tryd.underlying31 rfl (by rw [List.size_toArray, rq_len HKR.out]; exact size_req)) rfl ?_
      exact ⟨_, _, rfl, HV.out, HOB.out, HBW.out⟩
end Go.Proofs.YtfinfkodjkfibaaDoor

namespace Go.Proofs.YtfinfkodjkfibaaDoor
open Go Go.RowKit
set_option maxRecDepth 100000
theorem built_req48 (k e : Int) (a0 a1 a2 a3 a4 a5 a6 a7 a8 a9 a10 a11 a12 a13 a14 a15 b0 b1 b2 b3 b4 b5 b6 b7 b8 b9 b10 b11 b12 b13 b14 b15 c0 c1 c2 c3 c4 c5 c6 c7 c8 c9 c10 c11 c12 c13 c14 c15 : Int) : Tryd.prog.built 31 [(0, .int .i64 k), (1, .agg (u8s [a0, a1, a2, a3, a4, a5, a6, a7, a8, a9, a10, a11, a12, a13, a14, a15]).toArray), (2, .agg (u8s [b0, b1, b2, b3, b4, b5, b6, b7, b8, b9, b10, b11, b12, b13, b14, b15]).toArray), (3, .int .i64 e), (4, .agg (u8s [c0, c1, c2, c3, c4, c5, c6, c7, c8, c9, c10, c11, c12, c13, c14, c15]).toArray)] = some (reqCells ⟨k, [a0, a1, a2, a3, a4, a5, a6, a7, a8, a9, a10, a11, a12, a13, a14, a15], [b0, b1, b2, b3, b4, b5, b6, b7, b8, b9, b10, b11, b12, b13, b14, b15], e, [c0, c1, c2, c3, c4, c5, c6, c7, c8, c9, c10, c11, c12, c13, c14, c15], [], []⟩ (.slice none 0 0) (.slice none 0 0)).toArray := by kernel_rfl
theorem built_req5 (k e : Int) (i s n : List Int) (hi : i.length = 16) (hs : s.length = 16) (hn : n.length = 16) : Tryd.prog.built 31 [(0, .int .i64 k), (1, .agg (u8s i).toArray), (2, .agg (u8s s).toArray), (3, .int .i64 e), (4, .agg (u8s n).toArray)] = some (reqCells ⟨k, i, s, e, n, [], []⟩ (.slice none 0 0) (.slice none 0 0)).toArray := by
  match i, hi, s, hs, n, hn with
  | [a0, a1, a2, a3, a4, a5, a6, a7, a8, a9, a10, a11, a12, a13, a14, a15], _, [b0, b1, b2, b3, b4, b5, b6, b7, b8, b9, b10, b11, b12, b13, b14, b15], _, [c0, c1, c2, c3, c4, c5, c6, c7, c8, c9, c10, c11, c12, c13, c14, c15], _ => exact built_req48 k e a0 a1 a2 a3 a4 a5 a6 a7 a8 a9 a10 a11 a12 a13 a14 a15 b0 b1 b2 b3 b4 b5 b6 b7 b8 b9 b10 b11 b12 b13 b14 b15 c0 c1 c2 c3 c4 c5 c6 c7 c8 c9 c10 c11 c12 c13 c14 c15
end Go.Proofs.YtfinfkodjkfibaaDoor

namespace Go.Proofs.YtfinfkodjkfibaaDoor
open Go Go.RowKit
set_option maxRecDepth 100000
theorem el_tests : ElemOf Tryd.prog 29 60 34 48 := elem_of Tryd.underlying29 (z := .agg (tstC ⟨0, false, List.replicate 32 0⟩).toArray) (by kernel_rfl) (by simp [Value.cells, tstC, u8s]) (by decide) (by decide)
/-- A list of tests of the call's own. -/
def OwnTsts (w : World) (base : Nat) (v : Value) (l : List Msg.Tst) : Prop := w.ownsRow base 60 34 v l.length (l.flatMap tstC) ∧ ∀ t ∈ l, t.want.length = 32
section
variable {w w' : World} {base : Nat} {v : Value} {l : List Msg.Tst}
theorem OwnTsts.nil_ (w : World) (base : Nat) : OwnTsts w base (.slice none 0 0) [] := ⟨World.ownsRow_nil _ _ _ _, fun t ht => by cases ht⟩
theorem OwnTsts.keptB (h : OwnTsts w base v l) (hb : Below w.heap.size w w') : OwnTsts w' base v l := ⟨own_keptB h.1 hb, h.2⟩
theorem OwnTsts.reads (h : OwnTsts w base v l) : TstsB w w.heap.size v l := ⟨Rd.of_own h.1, h.2⟩
theorem OwnTsts.shape (h : OwnTsts w base v l) : ∃ A c, v = .slice A l.length c := own_shape h.1
theorem OwnTsts.one (h : OwnTsts w base v l) : v.oneCell' = true := by
  obtain ⟨A, c, rfl⟩ := h.shape
  rfl
theorem OwnTsts.base_ (h : OwnTsts w base v l) : ∀ k, v.ownBlock = some k → base ≤ k := own_base h.1
/-- A write into another block, of another type. -/
theorem OwnTsts.past {g : Nat} {t : TypeId} {cs : List Value} (h : OwnTsts w base v l) (hk : Blk w g t cs) (ht : t ≠ 60) (hg : w.grownBy w' (some g)) : OwnTsts w' base v l :=
  ⟨h.1.kept hg (by
    have := own_ne_blk h.1 hk (Ne.symm ht)
    cases ho : v.ownBlock with
    | none => exact .inl rfl
    | some k => exact .inr (by rw [ho] at this; exact fun e => this e.symm)), h.2⟩
theorem tst_ones (t : Msg.Tst) : ∀ u ∈ tstC t, u.oneCell' = true := fun u hu => by
  unfold tstC at hu
  simp only [List.mem_cons] at hu
  rcases hu with rfl | rfl | hu
  · rfl
  · rfl
  · exact u8s_one _ _ hu
end
section
variable {ops : Array Oper} {rest : List Oper} {o : Oper} {a : Act} {w : World} {Q : Exit → Act → World → Prop}
/-- A list of one test from a literal. -/
theorem wpList_lit_tst (hgd : o.guard = none) (x : Operand) (ho : o.op = .buildSlice 29 1 #[(0, x)]) (t : Msg.Tst) (ht : t.want.length = 32) (hx : a.eval x = .agg (tstC t).toArray)
    (h : wpList Tryd.prog ops Q rest (a.put o.dst (.slice (some ⟨w.heap.size, 0, none⟩) 1 1)) (w.alloc (.cells (tstC t).toArray 60))) : wpList Tryd.prog ops Q (o :: rest) a w := by
  obtain ⟨i, z, hu, hi, hz, hsize, hby, hzs, _, _⟩ := el_tests
  refine wpList_buildSlice hgd 29 60 1 _ ho (tstC t).toArray i z hu hi hz (by rw [hsize]; omega) (by rw [hsize]; omega) ?_ h
  have e : (#[(0, x)].map fun (p : Nat × Operand) => (p.1, a.eval p.2)).toList = ([Value.agg (tstC t).toArray].zipIdx 0).map fun x => (x.2, x.1) := by simp [hx]
  rw [e, hsize]
  have := Great.fill_whole (s := 34) (by decide) [Value.agg (tstC t).toArray] ((Array.range (1 * 34)).map (z.cells[· % z.cells.size]!)) (by intro u hu; rw [List.mem_singleton.1 hu]; show (tstC t).toArray.size = 34; rw [List.size_toArray, tst_len ht]) (by simp)
  rw [this]
  congr 2
  show ([Value.agg (tstC t).toArray].flatMap fun v => v.cells.toList) = tstC t
  simp [Value.cells]
/-- 'l = append(l, t)': the world behind the block of t. -/
theorem wpList_append_tst (hgd : o.guard = none) (s x : Operand) (ho : o.op = .call { callee := .builtin .append, args := #[s, x], argTypes := #[29, 29] })
    (base : Nat) (v : Value) (l : List Msg.Tst) (hs : a.eval s = v) (hown : OwnTsts w base v l) (hB : base ≤ w.heap.size) (hn : l.length ≤ 1000000) (t : Msg.Tst) (ht : t.want.length = 32)
    (hx : a.eval x = .slice (some ⟨w.heap.size, 0, none⟩) 1 1)
    (h : ∀ v' w', OwnTsts w' base v' (l ++ [t]) → (∀ k, v.ownBlock = some k → base ≤ k ∧ k < w.heap.size) → (∃ w1, Below w.heap.size w w1 ∧ w1.grownBy w' v.ownBlock ∧ OwnTsts w1 base v l) → wpList Tryd.prog ops Q rest (a.put o.dst v') w') : wpList Tryd.prog ops Q (o :: rest) a (w.alloc (.cells (tstC t).toArray 60)) := by
  have hba := (Below.refl w.heap.size w).alloc (Nat.le_refl _) (.cells (tstC t).toArray 60)
  have hown' := hown.keptB hba
  have hz := hba.size
  have hrd := Rd.of_blk (B := w.heap.size + 1) (Blk.new w 60 (tstC t)) (by omega) 34 1 1 (by rw [tst_len ht]) (Nat.le_refl _) (by decide)
  refine wpList_append_rd _ hgd s x _ ho base _ 34 48 el_tests v l.length _ hs hown'.1 (w.heap.size + 1) _ 1 (tstC t) hx hrd (tst_ones t) (by omega) (by omega) ?_
  intro v' w' ho' hg _
  refine h v' w' ⟨?_, fun y hy => ?_⟩ (fun k hk => ⟨hown.base_ k hk, (hown.1.lt k hk).2⟩) ⟨_, hba, hg, hown'⟩
  · rw [List.flatMap_append, List.length_append, List.flatMap_singleton]
    exact ho'
  · rcases List.mem_append.1 hy with hy | hy
    · exact hown.2 y hy
    · obtain rfl := List.mem_singleton.1 hy; exact ht
end
end Go.Proofs.YtfinfkodjkfibaaDoor
