/- What MsgsBack needs, as plain laws: requests as it makes them are right and small. No condition. -/
import Derived.Test.YtfinfkodjkfibaaDoorUnlikeRq
namespace Go.Proofs.YtfinfkodjkfibaaDoor
open Go Go.RowKit
set_option linter.unusedVariables false
/-- A test as MsgsBack makes it. -/
def normT (t : Msg.Tst) : Msg.Tst := if t.absent = true then ⟨within t.num 16, true, Msg.z32⟩ else { t with num := within t.num 16 }
/-- A request as MsgsBack makes it of a small one. -/
def normK (q : Msg.Req) : Msg.Req := ⟨1 + within q.kind 6, q.index, q.secret, within q.ends 1048577, q.enable, (q.tests.take 10).map normT, (q.blobs.take 10).map fun x => (within x.1 16, x.2)⟩
theorem normT_right {t : Msg.Tst} (h1 : t.want.length = 32) (h2 : Bytes t.want) : Msg.RightT (normT t) := by
  have hw := within_range t.num 16 (by omega)
  unfold normT
  split
  · exact ⟨hw, rfl, by intro x hx; simp [Msg.z32] at hx; subst hx; omega, fun _ => rfl⟩
  · rename_i h
    exact ⟨hw, h1, h2, fun hh => absurd hh h⟩
theorem normK_right {q : Msg.Req} (h : InR q) : Msg.RightR (normK (cutR q)) where
  kind := by have := within_range q.kind 6 (by omega); show 1 ≤ 1 + within q.kind 6 ∧ 1 + within q.kind 6 ≤ 6; omega
  ends := by have := within_range q.ends 1048577 (by omega); show 0 ≤ within q.ends 1048577 ∧ within q.ends 1048577 ≤ 1048576; omega
  index := ⟨h.keys.i, h.bi⟩
  secret := ⟨h.keys.s, h.bs⟩
  enable := ⟨h.keys.e, h.be⟩
  tests := by
    refine ⟨?_, fun t ht => ?_⟩
    · show (((q.tests.take 34).take 10).map normT).length ≤ 32
      rw [List.length_map, List.length_take]; omega
    · obtain ⟨y, hy, rfl⟩ := List.mem_map.1 ht
      have := h.tests y (List.mem_of_mem_take (List.mem_of_mem_take hy))
      exact normT_right this.1 this.2.1
  blobs := by
    refine ⟨?_, fun x hx => ?_⟩
    · show (((cutB 34 q.blobs).take 10).map fun x => (within x.1 16, x.2)).length ≤ 32
      rw [List.length_map, List.length_take]; omega
    · obtain ⟨y, hy, rfl⟩ := List.mem_map.1 hx
      have := cutB_in (k := 34) h.blobs y (List.mem_of_mem_take hy)
      refine ⟨within_range y.1 16 (by omega), this.1, ?_⟩
      show y.2.length ≤ 16384
      omega
theorem normK_blobs {q : Msg.Req} (h : InR q) : ∀ x ∈ (normK (cutR q)).blobs, x.2.length ≤ 100 := fun x hx => by
  obtain ⟨y, hy, rfl⟩ := List.mem_map.1 hx
  exact (cutB_in (k := 34) h.blobs y (List.mem_of_mem_take hy)).2.2
theorem normK_cnt (q : Msg.Req) : (normK q).tests.length ≤ 10 ∧ (normK q).blobs.length ≤ 10 := by
  refine ⟨?_, ?_⟩
  · show ((q.tests.take 10).map normT).length ≤ 10
    rw [List.length_map, List.length_take]; omega
  · show ((q.blobs.take 10).map fun x => (within x.1 16, x.2)).length ≤ 10
    rw [List.length_map, List.length_take]; omega
theorem normK_small {q : Msg.Req} (h : InR q) : ∃ b, Msg.askF (normK (cutR q)) = some b ∧ 0 < b.length :=
  Msg.ask_small (normK_right h) (normK_blobs h) (normK_cnt _).1 (normK_cnt _).2
/-- Tests of which the first i are as MsgsBack makes them. -/
def normTs (l : List Msg.Tst) (i : Nat) : List Msg.Tst := (l.take i).map normT ++ l.drop i
theorem normTs_zero (l : List Msg.Tst) : normTs l 0 = l := rfl
theorem normTs_len (l : List Msg.Tst) (j : Nat) : (normTs l j).length = l.length := by
  unfold normTs
  rw [List.length_append, List.length_map, List.length_take, List.length_drop]
  omega
theorem normTs_all (l : List Msg.Tst) (j : Nat) (h : l.length ≤ j) : normTs l j = l.map normT := by
  unfold normTs
  rw [List.take_of_length_le h, List.drop_eq_nil_of_le h, List.append_nil]
theorem normTs_get (l : List Msg.Tst) (j : Nat) (h : j < l.length) : (normTs l j)[j]'(by rw [normTs_len]; exact h) = l[j] := by
  unfold normTs
  rw [List.getElem_append_right (by rw [List.length_map, List.length_take]; omega)]
  simp only [List.length_map, List.length_take, List.getElem_drop]
  congr 1
  omega
theorem normTs_set (l : List Msg.Tst) (j : Nat) (h : j < l.length) : (normTs l j).set j (normT l[j]) = normTs l (j + 1) := by
  unfold normTs
  have hl : ((l.take j).map normT).length = j := by rw [List.length_map, List.length_take]; omega
  rw [List.set_append_right _ _ (by omega), hl, Nat.sub_self, List.drop_eq_getElem_cons h, List.set_cons_zero, List.take_succ_eq_append_getElem h, List.map_append, List.append_assoc]
  rfl
theorem normT_yes {t : Msg.Tst} (h : t.absent = true) : ({ { t with num := within t.num 16 } with want := Msg.z32 } : Msg.Tst) = normT t := by
  unfold normT
  rw [if_pos h]
  obtain ⟨a, b, c⟩ := t
  simp only at h
  subst h
  rfl
theorem normT_no {t : Msg.Tst} (h : t.absent = false) : ({ t with num := within t.num 16 } : Msg.Tst) = normT t := by
  unfold normT
  rw [if_neg (by rw [h]; simp)]
theorem OwnTsts.lower {w : World} {b b' : Nat} {v : Value} {l : List Msg.Tst} (h : OwnTsts w b v l) (hb : b' ≤ b) : OwnTsts w b' v l := ⟨own_more h.1 hb, h.2⟩
theorem OwnBlbsR.lower {w : World} {b b' : Nat} {v : Value} {l : List Msg.Blb} (h : OwnBlbsR w b v l) (hb : b' ≤ b) : OwnBlbsR w b' v l := by
  obtain ⟨us, hl, h1, h2⟩ := h
  exact ⟨us, hl, own_more h1 hb, fun i hi => by obtain ⟨u, hu, hx⟩ := h2 i hi; exact ⟨u, hu, hx.more hb⟩⟩
theorem OwnTsts.blk_ {w : World} {base n c : Nat} {A : Option Addr} {l : List Msg.Tst} (h : OwnTsts w base (.slice A n c) l) (h0 : 0 < l.length) : ∃ g, A = some ⟨g, 0, none⟩ ∧ base ≤ g ∧ g < w.heap.size := by
  obtain ⟨_, h | ⟨g, cap, cur, hv, hb, hg, _⟩⟩ := h.1
  · omega
  · injection hv with e1 _ _
    exact ⟨g, e1, hb, (show Blk w g 60 cur.toList from hg).lt⟩
theorem OwnTsts.typ {w : World} {base g n c : Nat} {l : List Msg.Tst} (h : OwnTsts w base (.slice (some ⟨g, 0, none⟩) n c) l) : ∃ cs, Blk w g 60 cs := by
  obtain ⟨A', c', e⟩ := own_shape h.1
  injection e with _ e2 e3
  have h1 := h.1
  rw [← e2] at h1
  obtain ⟨cur, hb, _⟩ := own_blk h1
  exact ⟨cur, hb⟩
theorem OwnBlbsR.typ {w : World} {base g n c : Nat} {l : List Msg.Blb} (h : OwnBlbsR w base (.slice (some ⟨g, 0, none⟩) n c) l) : ∃ cs, Blk w g 44 cs := by
  obtain ⟨us, hl, h1, _⟩ := h
  obtain ⟨A', c', e⟩ := own_shape h1
  injection e with _ e2 e3
  rw [← e2] at h1
  obtain ⟨cur, hb, _⟩ := own_blk h1
  exact ⟨cur, hb⟩
theorem OwnTsts.num_cell {w : World} {base g n c : Nat} {l : List Msg.Tst} (h : OwnTsts w base (.slice (some ⟨g, 0, none⟩) n c) l) (i : Nat) (hi : i < l.length) : w.cell? ⟨g, i * 34, none⟩ = some (.int .i64 l[i].num) := by
  have := h.cells i hi 0 (.int .i64 l[i].num) rfl
  rwa [Nat.add_zero] at this
theorem OwnTsts.abs_cell {w : World} {base g n c : Nat} {l : List Msg.Tst} (h : OwnTsts w base (.slice (some ⟨g, 0, none⟩) n c) l) (i : Nat) (hi : i < l.length) : w.cell? ⟨g, i * 34 + 1, none⟩ = some (.bool l[i].absent) := h.cells i hi 1 _ rfl
theorem ReqB.other {w w' : World} {g g' : Nat} {q : Msg.Req} {vt vb : Value} {t : TypeId} {cs : List Value} (h : ReqB w g q vt vb) (hk : Blk w g' t cs) (ht : t ≠ 31) (hg : w.grownBy w' (some g')) : ReqB w' g q vt vb := by
  refine h.grown hg ?_
  intro e
  injection e with e
  subst e
  have h1 := h.blk
  unfold Blk at h1 hk
  rw [h1] at hk
  injection hk with hk
  injection hk with _ hk _
  exact ht hk.symm
namespace Msg
theorem say_small {E : Int} {l : List Blb} (R : RightS E l) (hb : ∀ x ∈ l, x.2.length ≤ 100) (h2 : l.length ≤ 10) : ∃ b, sayF E l = some b ∧ 0 < b.length := by
  have hrow : ∀ x ∈ sayRows E l, x.length ≤ 100 := fun x hx => by
    unfold sayRows at hx
    rcases List.mem_cons.1 hx with rfl | hx
    · exact put1_len' _
    · exact blobs_small hb x hx
  have hlen : (sayRows E l).length ≤ 22 := by
    unfold sayRows blobRows
    simp only [List.length_cons, blobRows_cnt]
    omega
  have := netsF_le _ hrow
  refine ⟨netsF (sayRows E l), ?_, ?_⟩
  · unfold sayF
    rw [if_neg (fun h => by
      rcases h with h | ⟨h, h'⟩
      · omega
      · rw [R.2.2 h] at h'; simp at h'), if_neg (by omega)]
  · unfold sayRows
    rw [netsF_cons, List.length_append]
    have := netF_pos (putF E 1)
    omega
end Msg
end Go.Proofs.YtfinfkodjkfibaaDoor
