/- place.Order: the servers in their order. Condition: the table of powers of ten stands. -/
import Derived.Test.YtgjepahhbecljaaDoorHeapAll
import Derived.Test.YtgjepahhbecljaaDoorShaTag
import Derived.Test.YtgjepahhbecljaaDoorCapKeys
namespace Go.Proofs.YtgjepahhbecljaaDoor
open Go Go.RowKit
set_option linter.unusedVariables false
set_option linter.unusedSimpArgs false
set_option maxRecDepth 100000
set_option maxHeartbeats 8000000
/-- A server's place. -/
def ordH (idx : List Int) (i : Nat) : List Int := taggedF (strB tOrder) [idx, putF (i : Int) 2]
/-- How many servers. -/
def ordN (n : Int) : Nat := (max 0 (min n 8)).toNat
def orderF (n : Int) (idx : List Int) : List Int := (Heap.ordT (ordH idx) (ordN n)).map Prod.fst
theorem ordH_ok (idx : List Int) (i : Nat) : (ordH idx i).length = 32 ∧ Bytes (ordH idx i) := ⟨taggedF_len _ _, taggedF_bytes _ _⟩
theorem Blk.turned {base g : Nat} {w w' : World} {t : TypeId} {cs : List Value} (h : Blk w g t cs) (hT : Turned base w w') (h1 : t ≠ 81) (h2 : t ≠ 84) : Blk w' g t cs := by
  have := hT.keep g h.lt (by
    intro cs' t' f hc
    unfold Blk at h
    rw [h] at hc
    injection hc with hc
    injection hc with _ hc
    subst hc
    exact ⟨h1, h2⟩)
  unfold Blk at h ⊢
  rw [this, h]
theorem own_turned {base base' size n : Nat} {w w' : World} {t : TypeId} {v : Value} {xs : List Value} (h : w.ownsRow base' t size v n xs) (hT : Turned base w w') (h1 : t ≠ 81) (h2 : t ≠ 84) : w'.ownsRow base' t size v n xs := by
  obtain ⟨hl, hv⟩ := h
  refine ⟨hl, ?_⟩
  rcases hv with hv | ⟨g, cap, cur, e, hbg, hB, hr⟩
  · exact .inl hv
  · refine .inr ⟨g, cap, cur, e, hbg, ?_, hr⟩
    rw [hT.keep g (Array.getElem?_eq_some_iff.1 hB).1 (by
      intro cs' t' f hc
      rw [hB] at hc
      injection hc with hc
      injection hc with _ hc
      subst hc
      exact ⟨h1, h2⟩), hB]
section
variable {o : Oper} {a : Act} {w : World}
theorem exec_mkI (t : TypeId) (x : Operand) (ho : o.op = .makeInterface t x) (v : Value) (hx : a.eval x = v) (hc : Tryd.prog.concrete t = true) : (execOp a.eval o).run Tryd.prog w = .ok (.value (.iface t v)) w := by
  unfold execOp
  simp only [ho, hx, Sem.run_bind, run_makeInterface _ t v hc, Result.andThen_ok, Sem.run_pure]
theorem list16' (l : List Int) (h : l.length = 16) : ∃ a0 a1 a2 a3 a4 a5 a6 a7 a8 a9 a10 a11 a12 a13 a14 a15 : Int, l = [a0, a1, a2, a3, a4, a5, a6, a7, a8, a9, a10, a11, a12, a13, a14, a15] := by
  match l, h with
  | [a0, a1, a2, a3, a4, a5, a6, a7, a8, a9, a10, a11, a12, a13, a14, a15], _ => exact ⟨a0, a1, a2, a3, a4, a5, a6, a7, a8, a9, a10, a11, a12, a13, a14, a15, rfl⟩
theorem built_turn32 (s b0 b1 b2 b3 b4 b5 b6 b7 b8 b9 b10 b11 b12 b13 b14 b15 c0 c1 c2 c3 c4 c5 c6 c7 c8 c9 c10 c11 c12 c13 c14 c15 : Int) : Tryd.prog.built 84 [(0, .int .i64 s), (1, .agg (u8s [b0, b1, b2, b3, b4, b5, b6, b7, b8, b9, b10, b11, b12, b13, b14, b15, c0, c1, c2, c3, c4, c5, c6, c7, c8, c9, c10, c11, c12, c13, c14, c15]).toArray)] = some (turnC (s, [b0, b1, b2, b3, b4, b5, b6, b7, b8, b9, b10, b11, b12, b13, b14, b15, c0, c1, c2, c3, c4, c5, c6, c7, c8, c9, c10, c11, c12, c13, c14, c15])).toArray := by kernel_rfl
theorem built_turn (s : Int) (f : List Int) (hf : f.length = 32) : Tryd.prog.built 84 [(0, .int .i64 s), (1, .agg (u8s f).toArray)] = some (turnC (s, f)).toArray := by
  have e : f = f.take 16 ++ f.drop 16 := (List.take_append_drop 16 f).symm
  obtain ⟨b0, b1, b2, b3, b4, b5, b6, b7, b8, b9, b10, b11, b12, b13, b14, b15, e1⟩ := list16' (f.take 16) (by rw [List.length_take, hf]; rfl)
  obtain ⟨c0, c1, c2, c3, c4, c5, c6, c7, c8, c9, c10, c11, c12, c13, c14, c15, e2⟩ := list16' (f.drop 16) (by rw [List.length_drop, hf])
  rw [e1, e2] at e
  subst e
  exact built_turn32 s b0 b1 b2 b3 b4 b5 b6 b7 b8 b9 b10 b11 b12 b13 b14 b15 c0 c1 c2 c3 c4 c5 c6 c7 c8 c9 c10 c11 c12 c13 c14 c15
theorem exec_build_turn (x y : Operand) (ho : o.op = .build 84 #[(0, x), (1, y)]) (s : Int) (f : List Int) (hx : a.eval x = .int .i64 s) (hy : a.eval y = .agg (u8s f).toArray) (hf : f.length = 32) :
    (execOp a.eval o).run Tryd.prog w = .ok (.value (.agg (turnC (s, f)).toArray)) w := by
  have hm : ((#[(0, x), (1, y)] : Array (Nat × Operand)).map fun (i, x) => (i, a.eval x)).toList = [(0, .int .i64 s), (1, .agg (u8s f).toArray)] := by
    simp [hx, hy]
  have hr := run_build (P := Tryd.prog) w 84 ((#[(0, x), (1, y)] : Array (Nat × Operand)).map fun (i, x) => (i, a.eval x)) _ (by rw [hm]; exact built_turn s f hf)
  unfold execOp
  simp only [ho, Sem.run_bind, hr, Result.andThen_ok, Sem.run_pure]
theorem exec_field0_turn (x : Operand) (ho : o.op = .field 84 x 0) (X : Heap.T) (hx : a.eval x = .agg (turnC X).toArray) : (execOp a.eval o).run Tryd.prog w = .ok (.value (.int .i64 X.1)) w := by
  unfold execOp
  simp only [ho, hx]
  obtain ⟨d, hd, hi⟩ : ∃ d, Tryd.prog.underlying 84 = some d ∧ (match d with | .struct fs => (fs[0]?).map (fun f => (f.type, f.offset)) | _ => none) = some (3, 0) := ⟨_, Tryd.underlying84, by rfl⟩
  unfold turnC
  simp only [Instr.field, Sem.run_bind, run_underlying hd]
  cases d <;> first | (cases hi; done) | skip
  rename_i fs
  simp only [Option.map_eq_some_iff, Prod.mk.injEq] at hi
  obtain ⟨f, hf, h1, h2⟩ := hi
  have hag : ∀ w, (isAgg 3).run Tryd.prog w = .ok false w := fun w => by kernel_rfl
  simp [hf, part, h1, h2, Sem.run_bind, hag, asAgg]
end
theorem el_int53 : ElemOf Tryd.prog 53 3 1 8 := elem_of Tryd.underlying53 (z := .int .i64 0) (by kernel_rfl) rfl (by decide) (by decide)
theorem allT_succ (f : Nat → List Int) (i : Nat) : Heap.allT f (i + 1) = Heap.allT f i ++ [((i : Int), f i)] := by unfold Heap.allT; rw [List.range_succ, List.map_append]; rfl
theorem allT_len (f : Nat → List Int) (i : Nat) : (Heap.allT f i).length = i := by unfold Heap.allT; rw [List.length_map, List.length_range]
theorem alloc_sz (w : World) (o : Obj) : (w.alloc o).heap.size = w.heap.size + 1 := by simp
theorem heap_new (w1 : World) (base : Nat) (hs : w1.heap.size = base + 1) : HeapB ((w1.alloc (.cells #[] 84)).alloc (.cells #[.slice (some ⟨base + 1, 0, none⟩) 0 0] 81)) base (base + 1 + 1) (.slice (some ⟨base + 1, 0, none⟩) 0 0) [] := by
  have h1 : Blk (w1.alloc (.cells #[] 84)) (base + 1) 84 [] := by have := Blk.new w1 84 []; rwa [hs] at this
  have h2 : (w1.alloc (.cells #[] 84)).heap.size = base + 1 + 1 := by rw [alloc_sz, hs]
  refine ⟨?_, by omega, ⟨rfl, .inr ⟨base + 1, 0, #[], rfl, by omega, Blk.alloc h1 _, Nat.le_refl _, by decide, rfl, rfl⟩⟩, fun x hx => by cases hx⟩
  have := Blk.new (w1.alloc (.cells #[] 84)) 81 [.slice (some ⟨base + 1, 0, none⟩) 0 0]
  rwa [h2] at this
theorem heap_past {w2 w3 : World} {base b size n : Nat} {v v7 : Value} {h : List Heap.T} {xs : List Value} {o : Obj} (hb : HeapB w2 base b v h) (ho : w2.ownsRow base 3 size v7 n xs) (hg : (w2.alloc o).grownBy w3 v7.ownBlock) : HeapB w3 base b v h := by
  have hb' := hb.keptB ((Below.refl _ w2).alloc (Nat.le_refl _) o)
  have ho' := own_keptB ho ((Below.refl _ w2).alloc (Nat.le_refl _) o)
  exact ⟨hb'.1.grown hg (own_ne_blk ho' hb'.1 (by decide)), hb'.2.1, RowT.kept hb'.2.2 hg (own_ne hb'.2.2.1 ho' (by decide))⟩
theorem past_below {w w2 w3 : World} {base size n : Nat} {t : TypeId} {v7 : Value} {xs : List Value} {o : Obj} (hw : Below base w w2) (ho : w2.ownsRow base t size v7 n xs) (hz : base ≤ w2.heap.size) (hg : (w2.alloc o).grownBy w3 v7.ownBlock) : Below base w w3 :=
  (hw.alloc hz o).grown hg (by rw [alloc_sz]; omega) (own_base ho)
theorem is_nil : Heap.Is Heap.tlt (Heap.fn []) ([] : List Heap.T).length := fun k h1 h2 => by cases h2
theorem Order_any (n : Int) (idx : List Int) (w : World) (hn : -9223372036854775808 ≤ n ∧ n ≤ 9223372036854775807) (hi : idx.length = 16) (hb : Bytes idx) (ht : Tab w w.heap.size) :
    Calls Tryd.prog 46 #[.int .i64 n, .agg (u8s idx).toArray] w fun e w' => ∃ v, e = .returned v ∧ w'.ownsRow w.heap.size 3 1 v (orderF n idx).length ((orderF n idx).map (.int .i64)) ∧ Below w.heap.size w w' := by
  have HIL := hide hi
  have HIB := hide hb
  have HTB := hide ht
  obtain ⟨KV, HKV⟩ : ∃ x, Hid (Value.agg (u8s idx).toArray = x) := ⟨_, hide rfl⟩
  obtain ⟨m, HM⟩ : ∃ m, Hid (ordN n = m) := ⟨_, hide rfl⟩
  have hm8 : m ≤ 8 := by rw [← HM.out]; unfold ordN; omega
  have HOF := hide (show orderF n idx = (Heap.ordT (ordH idx) m).map Prod.fst by rw [← HM.out]; rfl)
  have hmx : max 0 (min n 8) = (m : Int) := by rw [← HM.out]; unfold ordN; omega
  obtain ⟨base, HBS⟩ : ∃ k, Hid (w.heap.size = k) := ⟨_, hide rfl⟩
  rw [HOF.out, HKV.out]
  rw [HBS.out] at HTB ⊢
  clear hb ht hi
  go_enter Tryd.func46, Tryd.ntmps46
  go_wp2_with (first
    | (refine wpList_box_key _ rfl idx HKV.out.symm rfl ?_; intro w1 hb1 hw1 hs1; rw [HBS.out] at hb1 hs1 hw1 ⊢; have HK1 := hide hb1; have HW1 := hide hw1; clear hb1 hw1))
  obtain ⟨b, hbE⟩ : ∃ b, base + 1 + 1 = b := ⟨_, rfl⟩
  have HB0 := hide (heap_new w1 base hs1)
  have HW0 := hide (show Below base w ((w1.alloc (.cells #[] 84)).alloc (.cells #[.slice (some ⟨base + 1, 0, none⟩) 0 0] 81)) from (HW1.out.alloc (by omega) _).alloc (by rw [alloc_sz]; omega) _)
  have HK00 := hide (show Blk ((w1.alloc (.cells #[] 84)).alloc (.cells #[.slice (some ⟨base + 1, 0, none⟩) 0 0] 81)) base 23 (u8s idx) from (HK1.out.alloc _).alloc _)
  rw [hbE] at HB0 ⊢
  have HPN := hide (fun (i : Nat) => show (∀ x ∈ [idx, putF (i : Int) 2], Bytes x) ∧ ∀ x ∈ [idx, putF (i : Int) 2], x.length ≤ 1000000 from ⟨by
    intro x hx
    simp only [List.mem_cons, List.not_mem_nil, or_false] at hx
    rcases hx with rfl | rfl
    · exact HIB.out
    · exact putF_bytes _ _, by
    intro x hx
    simp only [List.mem_cons, List.not_mem_nil, or_false] at hx
    rcases hx with rfl | rfl
    · rw [HIL.out]; omega
    · have h1 : (putF (i : Int) 2).length = wid 2 := putN_len _ _
      have := wid_le 2
      omega⟩)
  clear hbE
  go_loopw [13] (fun v13 wr => ∃ (i : Nat) (v : Value) (l : List Heap.T), v13 = .int .i64 i ∧ i ≤ m ∧ HeapB wr base b v l ∧ Heap.Is Heap.tlt (Heap.fn l) l.length ∧ l.Perm (Heap.allT (ordH idx) i) ∧ Blk wr base 23 (u8s idx) ∧ Below base w wr) (fun v13 _ => m - (intOf v13).toNat)
  case atStart => exact ⟨0, _, [], by go_num, by omega, HB0.out, is_nil, List.Perm.refl _, HK00.out, HW0.out⟩
  case round =>
    obtain ⟨i, v, l, rfl, him, hb, his, hp, hk, hw⟩ := hrel
    have HB := hide hb
    have HI := hide his
    have HP := hide hp
    have HK0 := hide hk
    have HW := hide hw
    have HLE := hide (show l.length = i by rw [hp.length_eq, allT_len])
    replace HTB := hide (HTB.out.below hw (Nat.le_refl _))
    clear hb his hp hk hw HB0 HW0 HK00 HK1 HW1
    by_cases hlt : i < m
    · have hlt' : (i : Int) < (m : Int) := by omega
      have hl1 : l.length < 1000 := by rw [HLE.out]; omega
      have HBY := hide (HPN.out i).1
      have HBL := hide (HPN.out i).2
      have HRE := hide (show ordH idx i = taggedF (strB tOrder) [idx, putF (i : Int) 2] from rfl)
      obtain ⟨RES, HRES0⟩ : ∃ x, Hid (ordH idx i = x) := ⟨_, hide rfl⟩
      have HRES := hide (show taggedF (strB tOrder) [idx, putF (i : Int) 2] = RES by rw [← HRE.out]; exact HRES0.out)
      have HRL := hide (show RES.length = 32 ∧ Bytes RES by rw [← HRES0.out]; exact ordH_ok idx i)
      have HTU := hide (Turned.refl base wr)
      go_upto_region 5 with fail
      refine wp_region_held_drew (S := fun _ => True) (by kernel_rfl) trivial (fun hHeld => ?_)
      replace HB := hide (HB.out.keptB (Below.refl _ _).drew)
      replace HTU := hide (HTU.out.drew)
      replace HK0 := hide HK0.out.drew
      replace HTB := hide (HTB.out.below ((Below.refl base _).drew) (Nat.le_refl _))
      refine take_d 16 (i := 0) (v := .pointer (some ⟨b, 0, none⟩)) rfl (by kernel_rfl) (by kernel_rfl) (by kernel_rfl) (by kernel_rfl) (fun _ _ _ h => h) (Or.inl ⟨by kernel_rfl, fun w' hS => exec_move _ rfl _ rfl⟩) hHeld ?_
      try simp only [Act.put, List.setIfInBounds_toArray, List.set_cons_zero, List.set_cons_succ]
      refine take_d 17 (i := 1) (v := hp b) rfl (by kernel_rfl) (by kernel_rfl) (by kernel_rfl) (by kernel_rfl) (fun _ _ _ h => h) (Or.inl ⟨by kernel_rfl, fun w' hS => exec_mkI _ _ rfl _ rfl (by kernel_rfl)⟩) hHeld ?_
      try simp only [Act.put, List.setIfInBounds_toArray, List.set_cons_zero, List.set_cons_succ]
      refine take_d 18 (i := 2) (v := .int .i64 (i : Int)) rfl (by kernel_rfl) (by kernel_rfl) (by kernel_rfl) (by kernel_rfl) (fun _ _ _ h => h) (Or.inl ⟨by kernel_rfl, fun w' hS => exec_move _ rfl _ rfl⟩) hHeld ?_
      try simp only [Act.put, List.setIfInBounds_toArray, List.set_cons_zero, List.set_cons_succ]
      refine take_d 19 (i := 3) (v := .slice (some ⟨base, 0, none⟩) 16 16) rfl (by kernel_rfl) (by kernel_rfl) (by kernel_rfl) (by kernel_rfl) (fun _ _ _ h => h) (Or.inl ⟨by kernel_rfl, fun w' hS => exec_slice_key _ rfl base 0 rfl⟩) hHeld ?_
      try simp only [Act.put, List.setIfInBounds_toArray, List.set_cons_zero, List.set_cons_succ]
      refine take_d 20 (i := 4) (v := .int .i64 (i : Int)) rfl (by kernel_rfl) (by kernel_rfl) (by kernel_rfl) (by kernel_rfl) (fun _ _ _ h => h) (Or.inl ⟨by kernel_rfl, fun w' hS => exec_move _ rfl _ rfl⟩) hHeld ?_
      try simp only [Act.put, List.setIfInBounds_toArray, List.set_cons_zero, List.set_cons_succ]
      refine wpAnyH_ready (rs := [5]) (by kernel_rfl) (by simp) (AllReadyH.cons rfl (fun K hK => ?_) AllReadyH.nil)
      rw [if_pos (by kernel_rfl)]
      try go_simp
      refine (Put_any (i : Int) 2 _ (by omega) (by omega)).mono ?_
      rintro e wp ⟨v1, rfl, ho1, hb1⟩
      have HT2 := hide (HTU.out.trans (Turned.of_below hb1 HB.out.size))
      have hzq := hb1.size
      replace HK0 := hide (HK0.out.below hb1 HK0.out.lt)
      replace HTB := hide (HTB.out.below hb1 HB.out.size)
      replace HB := hide (HB.out.keptB hb1)
      replace HTU := HT2
      clear HT2
      have HO := hide ho1
      clear ho1 hb1 hzq
      refine hK.out _ _ hHeld (fun hHeld => ?_)
      clear hK K
      try simp only [Act.put, List.setIfInBounds_toArray, List.set_cons_zero, List.set_cons_succ]
      refine wpAnyH_ready (rs := [6]) (by kernel_rfl) (by simp) (AllReadyH.cons rfl (fun K hK => ?_) AllReadyH.nil)
      rw [if_pos (by kernel_rfl)]
      refine wp_rows2D 22 rfl _ _ rfl (.slice (some ⟨base, 0, none⟩) 16 16) v1 rfl rfl rfl HO.out.cells ?_
      intro wl hbl hbb
      replace HO := hide (HO.out.keptB hbb)
      have HT2 := hide (HTU.out.trans (Turned.of_below hbb HB.out.size))
      have hzq := hbb.size
      replace HK0 := hide (HK0.out.below hbb HK0.out.lt)
      replace HTB := hide (HTB.out.below hbb HB.out.size)
      replace HB := hide (HB.out.keptB hbb)
      replace HTU := HT2
      clear HT2
      have HR := hide (rows_two hbl (HK0.out.reads HIL.out (by omega)) HO.out.reads)
      clear hbl hbb hzq
      refine hK.out _ _ hHeld (fun hHeld => ?_)
      clear hK K
      try simp only [Act.put, List.setIfInBounds_toArray, List.set_cons_zero, List.set_cons_succ]
      refine wpAnyH_ready (rs := [7]) (by kernel_rfl) (by simp) (AllReadyH.cons rfl (fun K hK => ?_) AllReadyH.nil)
      rw [if_pos (by kernel_rfl)]
      try go_simp
      refine (Tagged_any tOrder _ [idx, putF (i : Int) 2] _ HR.out HBY.out HBL.out (by simp) (by decide) (HTB.out.more HB.out.size)).mono ?_
      rintro e wt ⟨rfl, hb2⟩
      rw [HRES.out]
      have HT2 := hide (HTU.out.trans (Turned.of_below hb2 HB.out.size))
      have hzq := hb2.size
      replace HK0 := hide (HK0.out.below hb2 HK0.out.lt)
      replace HTB := hide (HTB.out.below hb2 HB.out.size)
      replace HB := hide (HB.out.keptB hb2)
      replace HTU := HT2
      clear HT2
      clear hb2 hzq HR HO
      refine hK.out _ _ hHeld (fun hHeld => ?_)
      clear hK K
      try simp only [Act.put, List.setIfInBounds_toArray, List.set_cons_zero, List.set_cons_succ]
      refine take_d 24 (i := 8) (v := .agg (turnC ((i : Int), RES)).toArray) rfl (by kernel_rfl) (by kernel_rfl) (by kernel_rfl) (by kernel_rfl) (fun _ _ _ h => h) (Or.inl ⟨by kernel_rfl, fun w' hS => exec_build_turn _ _ rfl (i : Int) RES rfl rfl HRL.out.1⟩) hHeld ?_
      try simp only [Act.put, List.setIfInBounds_toArray, List.set_cons_zero, List.set_cons_succ]
      refine take_d 25 (i := 9) (v := .iface 84 (.agg (turnC ((i : Int), RES)).toArray)) rfl (by kernel_rfl) (by kernel_rfl) (by kernel_rfl) (by kernel_rfl) (fun _ _ _ h => h) (Or.inl ⟨by kernel_rfl, fun w' hS => exec_mkI _ _ rfl _ rfl (by kernel_rfl)⟩) hHeld ?_
      try simp only [Act.put, List.setIfInBounds_toArray, List.set_cons_zero, List.set_cons_succ]
      refine wpAnyH_ready (rs := [10]) (by kernel_rfl) (by simp) (AllReadyH.cons rfl (fun K hK => ?_) AllReadyH.nil)
      rw [if_pos (by kernel_rfl)]
      try go_simp
      refine (heap_push ((i : Int), RES) v l _ base b HB.out HRL.out (by omega) HI.out).mono ?_
      rintro e wh ⟨⟨u, rfl⟩, v2, l2, hp2, hb2, hi2, ht2⟩
      replace HK0 := hide (HK0.out.turned ht2 (by decide) (by decide))
      replace HTB := hide (HTB.out.below ht2.below (Nat.le_refl _))
      have HT2 := hide (HTU.out.trans ht2)
      replace HTU := HT2
      have HB2 := hide hb2
      have HI2 := hide hi2
      have HP2 := hide hp2
      clear HT2 hb2 hi2 ht2 hp2 HB HI
      refine hK.out _ _ hHeld (fun hHeld => ?_)
      clear hK K
      try simp only [Act.put, List.setIfInBounds_toArray, List.set_cons_zero, List.set_cons_succ]
      refine wpAnyH_done (by kernel_rfl) ?_ _
      go_wp2_with fail
      go_roundw
      case measure => simp [intOf]; omega
      case rel =>
        refine ⟨i + 1, v2, l2, by go_num, by omega, HB2.out, HI2.out, ?_, HK0.out, HW.out.trans HTU.out.below⟩
        rw [allT_succ, HRES0.out]
        exact HP2.out.trans ((List.Perm.cons _ HP.out).trans (List.perm_append_singleton _ _).symm)
    · obtain rfl : i = m := by omega
      have hlt' : ¬ (i : Int) < (i : Int) := by omega
      have HTK := hide (show Heap.Taken (ordH idx) i [] l from ⟨List.Pairwise.nil, fun a ha => (by cases ha), HI.out, HP.out⟩)
      clear HPN
      go_wp2_with fail
      go_loopw [7] (fun v7 wr => ∃ (v : Value) (out h : List Heap.T), Heap.Taken (ordH idx) i out h ∧ HeapB wr base b v h ∧ wr.ownsRow base 3 1 v7 out.length ((out.map Prod.fst).map (.int .i64)) ∧ Below base w wr) (fun v7 _ => 9 - (match v7 with | .slice _ n _ => n | _ => 0))
      case atStart => exact ⟨v, [], l, HTK.out, HB.out, World.ownsRow_nil _ _ _ _, HW.out⟩
      case round =>
        obtain ⟨v, out, h, htk, hb, ho, hw⟩ := hrel
        clear HB HI HP HK0 HW HLE HTB HTK
        have HTK := hide htk
        have HB := hide hb
        have HO := hide ho
        have HW := hide hw
        have hlen : out.length + h.length = i := by have := htk.all.length_eq; rw [allT_len, List.length_append] at this; exact this
        have hc0 : wr.cell? ⟨b, 0, none⟩ = some v := hb.cell
        have HLC := hide (len_calls hb)
        obtain ⟨N, HN⟩ : ∃ n, Hid (h.length = n) := ⟨_, hide rfl⟩
        obtain ⟨M, HM2⟩ : ∃ n, Hid (out.length = n) := ⟨_, hide rfl⟩
        rw [HN.out] at HLC hlen
        rw [HM2.out] at HO hlen
        clear htk hb ho hw
        obtain ⟨A7, c7, rfl⟩ := own_shape HO.out
        go_wp2_with fail
        refine HLC.out.mono ?_
        rintro e w1 ⟨rfl, rfl⟩
        rcases Nat.eq_zero_or_pos N with rfl | hN
        · have hnil : h = [] := List.length_eq_zero_iff.1 HN.out
          subst hnil
          have HE := hide (show out = Heap.ordT (ordH idx) i from HTK.out.done)
          go_wp2_with fail
          go_ret
          refine ⟨_, rfl, ?_, HW.out⟩
          rw [← HE.out, List.length_map, HM2.out]
          exact HO.out
        · obtain ⟨n, HNN⟩ : ∃ n, Hid (N = n + 1) := ⟨N - 1, by unfold Hid; omega⟩
          have hN' : (0 : Int) < (N : Int) := by omega
          have HPOP := hide (heap_pop v h n wr base b HB.out (by rw [HN.out]; exact HNN.out) (by rw [HN.out]; omega) HTK.out.heap)
          obtain ⟨X, HX⟩ : ∃ x, Hid (h.getD 0 Heap.t0 = x) := ⟨_, hide rfl⟩
          rw [HX.out] at HPOP
          clear hc0
          go_wp2_with fail
          refine HPOP.out.mono ?_
          rintro e w2 ⟨rfl, v2, h2, hp2, hb2, hi2, ht2⟩
          have HP2 := hide hp2
          have HI2 := hide hi2
          have HB2 := hide hb2
          have HO2 := hide (own_turned HO.out ht2 (by decide) (by decide))
          have HW2 := hide (HW.out.trans ht2.below)
          have hz2 := HB2.out.size
          clear hp2 hb2 hi2 ht2 HB HO HW HPOP HLC
          go_wp2_with (first
            | (refine wpList_ex rfl (exec_assert_turn _ _ rfl _ rfl) ?_)
            | (refine wpList_ex rfl (exec_field0_turn _ rfl X rfl) ?_)
            | (at_builtin; go_must (refine wpList_append_rd _ rfl _ _ _ rfl base _ _ _ el_int53 _ _ _ rfl (own_keptB HO2.out ((Below.refl _ _).alloc (Nat.le_refl _) _)) (w2.heap.size + 1) _ _ _ rfl (Rd.one w2 3 _) (by intro u hu; obtain rfl := List.mem_singleton.1 hu; rfl) (by omega) (by rw [alloc_sz]; omega) ?_); intro v8 w3 ho8 hg8 _; have HO3 := hide ho8; have HB3 := hide (heap_past HB2.out HO2.out hg8); have HW3 := hide (past_below HW2.out HO2.out hz2 hg8); clear ho8 hg8 HO2 HB2 HW2))
          go_roundw
          case measure =>
            obtain ⟨A8, c8, rfl⟩ := own_shape HO3.out
            simp
            omega
          case rel =>
            refine ⟨v2, out ++ [X], h2, HTK.out.step (by rw [HN.out]; exact hN) HX.out.symm HP2.out HI2.out, HB3.out, ?_, HW3.out⟩
            rw [List.length_append, HM2.out, List.map_append, List.map_append]
            exact HO3.out
end Go.Proofs.YtgjepahhbecljaaDoor
