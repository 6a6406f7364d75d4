/- caps.short: the key that a tag and a key make; rows of the call's own from a literal of rows. Condition: the table of powers of ten stands.
caps.ReadOnly, VerifyOnly, Index: what may only read, only verify the same; where it is kept. Condition: the table of powers of ten stands.
caps.VerifyOnly, Index: what may only verify the same; where it is kept. Condition: the table of powers of ten stands.
caps.Index: where a capability's bytes are kept. Condition: the table of powers of ten stands.
caps.Enabler, Renewal: what a server asks of who writes; a lease's secret. Condition: the table of powers of ten stands.
caps.Slot: a slot's capability, of a seed and a print. Condition: the table of powers of ten stands.
caps.Dir: the same as a directory's. No condition. -/
import Derived.Test.YtgjepahhbecljaaDoorKeyLaws
namespace Go.Proofs.YtgjepahhbecljaaDoor
open Go Go.RowKit

section
variable {o : Oper} {a : Act} {w : World} {K : Act → World → Prop} {Q : Exit → Act → World → Prop} {ops : Array Oper} {rest : List Oper}
theorem wp_rows_lit (len : Nat) (parts : Array (Nat × Operand)) (ho : o.op = .buildSlice 77 len parts) (us : List Value) (hl : us.length = len) (h0 : 0 < len) (hs : len ≤ 16)
    (hp : (parts.map fun (i, x) => (i, a.eval x)).toList = (us.zipIdx 0).map fun x => (x.2, x.1)) (h1 : ∀ v ∈ us, v.cells = #[v])
    (h : ∀ w', Blk w' w.heap.size 26 us → Below w.heap.size w w' → K (a.put o.dst (.slice (some ⟨w.heap.size, 0, none⟩) len len)) w') : o.wp Tryd.prog a w K Q := by
  obtain ⟨i, z, ht, hi, hz, hsize, hby, hzs, _, _⟩ := el_brows
  refine wp_buildSlice 77 26 len parts ho us.toArray i z ht hi hz (by rw [hsize]; omega) (by rw [hsize]; omega) ?_ (h _ (Blk.new w 26 us) ((Below.refl _ _).alloc (Nat.le_refl _) _))
  rw [hp, hsize]
  exact Great.fill_flat us _ h1 (by simp [hl])
theorem wpList_rows_lit (hgd : o.guard = none) (len : Nat) (parts : Array (Nat × Operand)) (ho : o.op = .buildSlice 77 len parts) (us : List Value) (hl : us.length = len) (h0 : 0 < len) (hs : len ≤ 16)
    (hp : (parts.map fun (i, x) => (i, a.eval x)).toList = (us.zipIdx 0).map fun x => (x.2, x.1)) (h1 : ∀ v ∈ us, v.cells = #[v])
    (h : ∀ w', Blk w' w.heap.size 26 us → Below w.heap.size w w' → wpList Tryd.prog ops Q rest (a.put o.dst (.slice (some ⟨w.heap.size, 0, none⟩) len len)) w') : wpList Tryd.prog ops Q (o :: rest) a w :=
  wpList_plain hgd fun _ hK => wp_rows_lit len parts ho us hl h0 hs hp h1 fun w' a1 a2 => hK _ _ (h w' a1 a2)
theorem wpList_rows1 (hgd : o.guard = none) (x : Operand) (ho : o.op = .buildSlice 77 1 #[(0, x)]) (u : Value) (hx : a.eval x = u) (h1 : u.cells = #[u])
    (h : ∀ w', Blk w' w.heap.size 26 [u] → Below w.heap.size w w' → wpList Tryd.prog ops Q rest (a.put o.dst (.slice (some ⟨w.heap.size, 0, none⟩) 1 1)) w') : wpList Tryd.prog ops Q (o :: rest) a w :=
  wpList_rows_lit hgd 1 _ ho [u] rfl (by omega) (by omega) (by simp [hx]) (by intro v hv; simp at hv; subst hv; exact h1) h
theorem wp_rows1D (d : Nat) (hd : o.dst = some d) (x : Operand) (ho : o.op = .buildSlice 77 1 #[(0, x)]) (u : Value) (hx : a.eval x = u) (h1 : u.cells = #[u])
    (h : ∀ w', Blk w' w.heap.size 26 [u] → Below w.heap.size w w' → K (a.put (some d) (.slice (some ⟨w.heap.size, 0, none⟩) 1 1)) w') : o.wp Tryd.prog a w K Q :=
  wp_rows_lit 1 _ ho [u] rfl (by omega) (by omega) (by simp [hx]) (by intro v hv; simp at hv; subst hv; exact h1) (by rw [hd]; exact h)
theorem wp_rows2D (d : Nat) (hd : o.dst = some d) (x y : Operand) (ho : o.op = .buildSlice 77 2 #[(0, x), (1, y)]) (u v : Value) (hx : a.eval x = u) (hy : a.eval y = v) (h1 : u.cells = #[u]) (h2 : v.cells = #[v])
    (h : ∀ w', Blk w' w.heap.size 26 [u, v] → Below w.heap.size w w' → K (a.put (some d) (.slice (some ⟨w.heap.size, 0, none⟩) 2 2)) w') : o.wp Tryd.prog a w K Q :=
  wp_rows_lit 2 _ ho [u, v] rfl (by omega) (by omega) (by simp [hx, hy]) (by intro q hq; simp at hq; rcases hq with rfl | rfl <;> assumption) (by rw [hd]; exact h)
theorem wp_rows3D (d : Nat) (hd : o.dst = some d) (x y z : Operand) (ho : o.op = .buildSlice 77 3 #[(0, x), (1, y), (2, z)]) (u v q : Value) (hx : a.eval x = u) (hy : a.eval y = v) (hz : a.eval z = q) (h1 : u.cells = #[u]) (h2 : v.cells = #[v]) (h3 : q.cells = #[q])
    (h : ∀ w', Blk w' w.heap.size 26 [u, v, q] → Below w.heap.size w w' → K (a.put (some d) (.slice (some ⟨w.heap.size, 0, none⟩) 3 3)) w') : o.wp Tryd.prog a w K Q :=
  wp_rows_lit 3 _ ho [u, v, q] rfl (by omega) (by omega) (by simp [hx, hy, hz]) (by intro r hr; simp at hr; rcases hr with rfl | rfl | rfl <;> assumption) (by rw [hd]; exact h)
theorem wpList_box_key (x : Operand) (ho : o.op = .box 23 x) (xs : List Int) (hx : a.eval x = .agg (u8s xs).toArray) (hgd : o.guard = none)
    (h : ∀ w', Blk w' w.heap.size 23 (u8s xs) → Below w.heap.size w w' → w'.heap.size = w.heap.size + 1 → wpList Tryd.prog ops Q rest (a.put o.dst (.pointer (some ⟨w.heap.size, 0, none⟩))) w') : wpList Tryd.prog ops Q (o :: rest) a w :=
  Great.wpList_boxTo hgd _ x ho _ rfl _ rfl (u8s xs).toArray (by rw [hx]; rfl) (h _ (Blk.new w _ _) ((Below.refl _ _).alloc (Nat.le_refl _) _) (by simp))
theorem wpList_box_hash (x : Operand) (ho : o.op = .box 25 x) (xs : List Int) (hx : a.eval x = .agg (u8s xs).toArray) (hgd : o.guard = none)
    (h : ∀ w', Blk w' w.heap.size 25 (u8s xs) → Below w.heap.size w w' → w'.heap.size = w.heap.size + 1 → wpList Tryd.prog ops Q rest (a.put o.dst (.pointer (some ⟨w.heap.size, 0, none⟩))) w') : wpList Tryd.prog ops Q (o :: rest) a w :=
  Great.wpList_boxTo hgd _ x ho _ rfl _ rfl (u8s xs).toArray (by rw [hx]; rfl) (h _ (Blk.new w _ _) ((Below.refl _ _).alloc (Nat.le_refl _) _) (by simp))
end
theorem Blk.reads {w : World} {g n : Nat} {t : TypeId} {xs : List Int} (h : Blk w g t (u8s xs)) (hn : xs.length = n) (hm : n ≤ 64) : Bs w w.heap.size (.slice (some ⟨g, 0, none⟩) n n) xs := by
  subst hn
  exact Rd.of_blk h h.lt 1 xs.length xs.length (by rw [u8s_len]; omega) (Nat.le_refl _) (by unfold maxLen; omega)
theorem RowsB.of_blk {w : World} {g B : Nat} {t : TypeId} {us : List Value} {rows : List (List Int)} (h : Blk w g t us) (hg : g < B) (hl : us.length = rows.length) (hm : rows.length ≤ 16) (hr : ∀ i (hi : i < rows.length), ∃ u, us[i]? = some u ∧ Bs w B u rows[i]) :
    RowsB w B (.slice (some ⟨g, 0, none⟩) rows.length rows.length) rows :=
  ⟨us, Rd.of_blk h hg 1 rows.length rows.length (by omega) (Nat.le_refl _) (by unfold maxLen; omega), hl, hr⟩
theorem rows_one {w : World} {g : Nat} {t : TypeId} {u : Value} {x : List Int} (h : Blk w g t [u]) (hx : Bs w w.heap.size u x) : RowsB w w.heap.size (.slice (some ⟨g, 0, none⟩) 1 1) [x] :=
  RowsB.of_blk (rows := [x]) h h.lt rfl (by simp) fun i hi => by
    obtain rfl : i = 0 := by simpa using hi
    exact ⟨u, rfl, hx⟩
theorem rows_two {w : World} {g : Nat} {t : TypeId} {u v : Value} {x y : List Int} (h : Blk w g t [u, v]) (hx : Bs w w.heap.size u x) (hy : Bs w w.heap.size v y) : RowsB w w.heap.size (.slice (some ⟨g, 0, none⟩) 2 2) [x, y] :=
  RowsB.of_blk (rows := [x, y]) h h.lt rfl (by simp) fun i hi => by
    obtain rfl | rfl : i = 0 ∨ i = 1 := by simp at hi; omega
    · exact ⟨u, rfl, hx⟩
    · exact ⟨v, rfl, hy⟩
theorem rows_three {w : World} {g : Nat} {t : TypeId} {u v q : Value} {x y z : List Int} (h : Blk w g t [u, v, q]) (hx : Bs w w.heap.size u x) (hy : Bs w w.heap.size v y) (hz : Bs w w.heap.size q z) : RowsB w w.heap.size (.slice (some ⟨g, 0, none⟩) 3 3) [x, y, z] :=
  RowsB.of_blk (rows := [x, y, z]) h h.lt rfl (by simp) fun i hi => by
    obtain rfl | rfl | rfl : i = 0 ∨ i = 1 ∨ i = 2 := by simp at hi; omega
    · exact ⟨u, rfl, hx⟩
    · exact ⟨v, rfl, hy⟩
    · exact ⟨q, rfl, hz⟩
set_option maxRecDepth 100000
set_option maxHeartbeats 4000000
theorem short_any (s : ByteArray) (k : List Int) (w : World) (hk : k.length = 16) (hb : Bytes k) (hs : s.size ≤ 1000) (ht : Tab w w.heap.size) :
    Calls Tryd.prog 72 #[.string s, .agg (u8s k).toArray] w fun e w' => e = .returned (.agg (u8s (keyF s k)).toArray) ∧ Below w.heap.size w w' := by
  have HK := hide hk
  have HBK := hide (show ∀ x ∈ [k], Bytes x from fun x hx => by simp at hx; subst hx; exact hb)
  have HLK := hide (show ∀ x ∈ [k], x.length ≤ 1000000 from fun x hx => by simp at hx; subst hx; omega)
  have HT := hide ht
  obtain ⟨RES, HRES⟩ : ∃ x, Hid (keyF s k = x) := ⟨_, hide rfl⟩
  have HRS := hide (show shortF (strB s) [k] = RES from HRES.out)
  have HRL := hide (show RES.length = 16 by rw [← HRES.out]; exact keyF_len _ _)
  obtain ⟨KV, HKV⟩ : ∃ x, Hid (Value.agg (u8s k).toArray = x) := ⟨_, hide rfl⟩
  rw [HRES.out, HKV.out]
  clear hk hb ht
  go_enter Tryd.func72, Tryd.ntmps72
  obtain ⟨g0, hg0⟩ : ∃ n, w.heap.size = n := ⟨_, rfl⟩
  go_wp2_with (first
    | (refine wpList_box_key _ rfl k HKV.out.symm rfl ?_; intro w1 hb1 hw1 hs1; rw [hg0] at hb1 ⊢; have HX1 := hide hb1; have HB1 := hide hw1; clear hb1 hw1)
    | (refine wpList_alloc_blk rfl 23 rfl _ zero_key ?_; intro w2 hb2 hw2 hs2; have hg2 : w1.heap.size = g0 + 1 := (by omega); rw [hg2] at hb2; try rw [hg2]; have HR2 := hide hb2; have HX2 := hide (HX1.out.below hw2 HX1.out.lt); have HB2 := hide (HB1.out.trans (hw2.mono HB1.out.size)); clear hb2 hw2 HX1 HB1)
    | (refine wpList_rows1 rfl _ rfl (.slice (some ⟨g0, 0, none⟩) 16 16) rfl rfl ?_; intro w3 hb3 hw3; have hg3 : w2.heap.size = g0 + 1 + 1 := (by omega); rw [hg3] at hb3; have HX3 := hide (HX2.out.below hw3 HX2.out.lt); have HV3 := hide (rows_one hb3 (HX3.out.reads HK.out (by omega))); have HR3 := hide (HR2.out.below hw3 HR2.out.lt); have HB3 := hide (HB2.out.trans (hw3.mono HB2.out.size)); clear hb3 hw3 HX2 HR2 HB2))
  refine (Short_any s _ [k] _ HV3.out HBK.out HLK.out (by simp) hs ((HT.out.below HB3.out (Nat.le_refl _)).more HB3.out.size)).mono ?_
  rintro e w4 ⟨rfl, hb4⟩
  rw [HRS.out]
  have HR4 := hide (HR3.out.below hb4 HR3.out.lt)
  have HB4 := hide (HB3.out.trans (hb4.mono HB3.out.size))
  clear hb4 HR3 HB3 HX3 HV3
  go_wp2_with (first
    | (refine wpList_store_blk rfl 23 _ _ rfl (g0 + 1) 0 (u8s RES) rfl rfl _ _ HR4.out (by rw [u8s_len, u8s_len, HRL.out]; simp) (by rw [u8s_len, HRL.out]; exact size_key) (u8s_one _) ?_; intro w7 hb7 hg7 hs7; rw [lset_all _ _ (by rw [u8s_len, u8s_len, HRL.out]; rfl)] at hb7; have HR7 := hide hb7; have HB7 := hide (HB4.out.grown hg7 (by have := HB4.out.size; omega) (by intro k hk; simp at hk; omega)); clear hb7 hg7))
  refine bodyPost_ret (v := .agg (u8s RES).toArray) (results_cell_row rfl _ _ (g0 + 1) 23 _ (0, 0) _ rfl HR7.out Tryd.underlying23 rfl (by rw [List.size_toArray, u8s_len, HRL.out]; exact size_key)) rfl ?_
  exact ⟨rfl, HB7.out⟩
end Go.Proofs.YtgjepahhbecljaaDoor

namespace Go.Proofs.YtgjepahhbecljaaDoor
open Go Go.RowKit

section
variable {o : Oper} {a : Act} {w : World} {K : Act → World → Prop} {Q : Exit → Act → World → Prop} {g : Nat} {c : CapD} {lit : Value}
theorem wp_cap_intD (d : Nat) (hd : o.dst = some d) (x : Operand) (ho : o.op = .load 3 x) (off : Nat) (hx : a.eval x = .pointer (some ⟨g, off, none⟩)) (hB : CapB w g c lit)
    (n : Int) (hn : capInt c off = some n) (h : K (a.put (some d) (.int .i64 n)) w) : o.wp Tryd.prog a w K Q :=
  wp_load_one _ x ho g off hx _ Tryd.underlying3 rfl _ (hB.int_ hn) (by rw [hd]; exact h)
theorem wp_cap_keyD (d : Nat) (hd : o.dst = some d) (x : Operand) (ho : o.op = .load 23 x) (hx : a.eval x = .pointer (some ⟨g, 1, none⟩)) (hB : CapB w g c lit)
    (h : K (a.put (some d) (.agg (u8s c.key).toArray)) w) : o.wp Tryd.prog a w K Q :=
  wp_load_mid _ x ho g 1 hx _ _ hB.keyRange Tryd.underlying23 rfl (by rw [u8s_len, hB.keyL]; exact size_key) (by rw [hd]; exact h)
end
theorem capV_of {c : CapD} {lit : Value} {w : World} {B : Nat} (h1 : c.key.length = 16) (h2 : c.fp.length = 32) (hl : Bs w B lit c.lit) : CapV c lit := by
  obtain ⟨A, k, rfl, _⟩ := hl.open_
  exact ⟨h1, h2, A, k, rfl⟩
theorem results_key_err {fn : Func} {p u : Tmp} (h : fn.results = #[.cell p 23, .tmp u]) (tmps : Array Value) (w : World) (g : Nat) (k : List Int)
    (hp : tmps.getD p undef = .pointer (some ⟨g, 0, none⟩)) (hB : Blk w g 23 (u8s k)) (hk : k.length = 16) (v : Value) (hv : tmps.getD u undef = v) : (results fn tmps).run Tryd.prog w = .ok (.tuple #[.agg (u8s k).toArray, v]) w := by
  rw [results_cell_tmp h, hp, hv]
  have := run_loadVar_row w g 23 23 (u8s k).toArray (0, 0) _ hB Tryd.underlying23 rfl (by rw [List.size_toArray, u8s_len, hk]; exact size_key)
  simp only [asAddr, Sem.run_pure, Result.andThen_ok, this]
set_option linter.unusedVariables false
set_option linter.unusedSimpArgs false
set_option maxRecDepth 100000
set_option maxHeartbeats 8000000
theorem ReadOnly_any (c : CapD) (lit : Value) (w : World) (hwf : c.Wf) (hl : Bs w w.heap.size lit c.lit) (hn : c.lit.length ≤ 1000000) (ht : Tab w w.heap.size) :
    Calls Tryd.prog 39 #[capV c lit] w fun e w' => ∃ l', e = .returned (.tuple #[capV (roF c) l', .int .i64 (roE c)]) ∧ Bs w' w'.heap.size l' (roF c).lit ∧ Below w.heap.size w w' := by
  have hc := capV_of hwf.keyL hwf.fpL hl
  have H1 := hide hwf.keyL
  have H2 := hide hwf.fpL
  have H3 := hide hl.one
  have HL := hide hl
  have HLB := hide hwf.litB
  have HWF := hide hwf
  have HT := hide ht
  obtain ⟨NN, HNN⟩ : ∃ x, Hid (CapD.none_ = x) := ⟨_, hide rfl⟩
  have HN1 := hide (show NN.key.length = 16 by rw [← HNN.out]; rfl)
  have HN2 := hide (show NN.fp.length = 32 by rw [← HNN.out]; rfl)
  have HNL := hide (show NN.lit = [] by rw [← HNN.out]; rfl)
  obtain ⟨CV, HCV⟩ : ∃ x, Hid (capV c lit = x) := ⟨_, hide rfl⟩
  by_cases hr : readF c = true
  · have HRD := hide (fun w => by have := read_any c lit w hc; rw [hr, HCV.out] at this; exact this)
    have HE := hide (show roE c = 0 by unfold roE; rw [if_pos hr])
    have hkd := valid_kind (readF_kind hr).1
    by_cases hw : writeF c = true
    · have HWR := hide (fun w => by have := write_any c lit w hc; rw [hw, HCV.out] at this; exact this)
      obtain ⟨KV, HKV⟩ : ∃ x, Hid (Value.agg (u8s c.key).toArray = x) := ⟨_, hide rfl⟩
      obtain ⟨KR, HKR0⟩ : ∃ x, Hid (keyF tRead c.key = x) := ⟨_, hide rfl⟩
      have HKL := hide (show KR.length = 16 by rw [← HKR0.out]; exact keyF_len _ _)
      obtain ⟨KRV, HKR⟩ : ∃ x, Hid (Value.agg (u8s KR).toArray = x) := ⟨_, hide rfl⟩
      have HSH := hide (fun w' (ht : Tab w' w'.heap.size) => by have := short_any tRead c.key w' hwf.keyL hwf.keyB (by decide) ht; rw [HKV.out, HKR0.out, HKR.out] at this; exact this)
      obtain ⟨C1, HC1⟩ : ∃ x, Hid (roF c = x) := ⟨_, hide rfl⟩
      have HC1E := hide (show { c with kind := c.kind + 1, key := KR } = C1 by rw [← HC1.out, ← HKR0.out]; unfold roF; rw [if_pos hr, if_pos hw])
      have HC1L := hide (show { C1 with lit := c.lit } = C1 by rw [← HC1E.out])
      have HCL := hide (show C1.lit = c.lit by rw [← HC1E.out])
      rw [HC1.out, HE.out]
      clear hr hw hc hwf hl ht
      rw [HCV.out]
      go_enter Tryd.func39, Tryd.ntmps39
      obtain ⟨g, hg⟩ : ∃ n, w.heap.size = n := ⟨_, rfl⟩
      go_wp2_with (first
          | (refine wpList_cap_new _ rfl HCV.out.symm rfl H1.out H2.out H3.out ?_; intro w1 hb1 hw1 hs1; rw [hg] at hb1 ⊢; have HB := hide hb1; have HW := hide hw1; clear hb1 hw1)
          | (refine wpList_cap_zero rfl rfl ?_; rw [HNN.out]; intro w2 hb2 hw2 hs2; have hg2 : w1.heap.size = g + 1 := (by omega); rw [hg2] at hb2; try rw [hg2]; have HZ := hide hb2; replace HB := hide (HB.out.below hw2 HB.out.lt); replace HW := hide (HW.out.trans (hw2.mono HW.out.size)); clear hb2 hw2)
          | (refine wpList_cap_all _ rfl rfl rfl HB.out ?_; rw [HCV.out]))
      refine (HRD.out _).mono ?_
      rintro e w3 ⟨rfl, hb3⟩
      replace HB := hide (HB.out.below hb3 HB.out.lt)
      replace HZ := hide (HZ.out.below hb3 HZ.out.lt)
      replace HW := hide (HW.out.trans (hb3.mono HW.out.size))
      clear hb3
      go_wp2_with (refine wpList_cap_all _ rfl rfl rfl HB.out ?_; rw [HCV.out])
      refine (HWR.out _).mono ?_
      rintro e w3 ⟨rfl, hb3⟩
      replace HB := hide (HB.out.below hb3 HB.out.lt)
      replace HZ := hide (HZ.out.below hb3 HZ.out.lt)
      replace HW := hide (HW.out.trans (hb3.mono HW.out.size))
      clear hb3
      go_upto_region 4 with fail
      refine wp_region_held_drew (S := fun w' => Below w.heap.size w w') (by kernel_rfl) HW.out.drew (fun hHeld => ?_)
      replace HB := hide (HB.out.below ((Below.refl _ _).drew) HB.out.lt)
      replace HZ := hide (HZ.out.below ((Below.refl _ _).drew) HZ.out.lt)
      refine take_d 10 (i := 0) (v := .pointer (some ⟨g, 0, none⟩)) rfl (by kernel_rfl) (by kernel_rfl) (by kernel_rfl) (by kernel_rfl) (fun _ _ _ h => h) (Or.inl ⟨by kernel_rfl, fun w' hS => exec_field _ 0 0 rfl g rfl rfl⟩) hHeld ?_
      try simp only [Act.put, List.setIfInBounds_toArray, List.set_cons_zero, List.set_cons_succ]
      refine take_d 13 (i := 3) (v := .pointer (some ⟨g, 1, none⟩)) rfl (by kernel_rfl) (by kernel_rfl) (by kernel_rfl) (by kernel_rfl) (fun _ _ _ h => h) (Or.inl ⟨by kernel_rfl, fun w' hS => exec_field _ 1 1 rfl g rfl rfl⟩) hHeld ?_
      try simp only [Act.put, List.setIfInBounds_toArray, List.set_cons_zero, List.set_cons_succ]
      refine wpAnyH_ready (rs := [1, 4]) (by kernel_rfl) (by simp) (AllReadyH.cons rfl (fun K hK => ?q1_1) (AllReadyH.cons rfl (fun K hK => ?q2_4) AllReadyH.nil))
      case q1_1 =>
        rw [if_pos (by kernel_rfl)]
        refine wp_cap_intD 11 rfl _ rfl 0 rfl HB.out _ rfl ?_
        refine hK.out _ _ hHeld (fun hHeld => ?_)
        clear hK K
        try simp only [Act.put, List.setIfInBounds_toArray, List.set_cons_zero, List.set_cons_succ]
        refine take_d 12 (i := 2) (v := .int .i64 (c.kind + 1)) rfl (by kernel_rfl) (by kernel_rfl) (by kernel_rfl) (by kernel_rfl) (fun _ _ _ h => h) (Or.inl ⟨by kernel_rfl, fun w' hS => exec_i64_add _ _ _ rfl _ _ _ rfl rfl (IntWalk.i64_in _ (by omega))⟩) hHeld ?_
        try simp only [Act.put, List.setIfInBounds_toArray, List.set_cons_zero, List.set_cons_succ]
        refine wpAnyH_ready (rs := [4]) (by kernel_rfl) (by simp) (AllReadyH.cons rfl (fun K hK => ?_) AllReadyH.nil)
        rw [if_pos (by kernel_rfl)]
        refine wp_cap_keyD 14 rfl _ rfl rfl HB.out ?_
        rw [HKV.out]
        refine hK.out _ _ hHeld (fun hHeld => ?_)
        clear hK K
        try simp only [Act.put, List.setIfInBounds_toArray, List.set_cons_zero, List.set_cons_succ]
        refine take_d 16 (i := 6) (v := .pointer (some ⟨g, 0, none⟩)) rfl (by kernel_rfl) (by kernel_rfl) (by kernel_rfl) (by kernel_rfl) (fun _ _ _ h => h) (Or.inl ⟨by kernel_rfl, fun w' hS => exec_field _ 0 0 rfl g rfl rfl⟩) hHeld ?_
        try simp only [Act.put, List.setIfInBounds_toArray, List.set_cons_zero, List.set_cons_succ]
        refine wpAnyH_ready (rs := [5]) (by kernel_rfl) (by simp) (AllReadyH.cons rfl (fun K hK => ?_) AllReadyH.nil)
        rw [if_pos (by kernel_rfl)]
        try go_simp
        refine (HSH.out _ ((HT.out.below hHeld (Nat.le_refl _)).more hHeld.size)).mono ?_
        rintro e wc ⟨rfl, hb⟩
        have HX := hide (hHeld.trans (hb.mono hHeld.size))
        replace HB := hide (HB.out.below hb HB.out.lt)
        replace HZ := hide (HZ.out.below hb HZ.out.lt)
        clear hb
        refine hK.out _ _ HX.out (fun hHeld => ?_)
        clear HX hK K
        try simp only [Act.put, List.setIfInBounds_toArray, List.set_cons_zero, List.set_cons_succ]
        refine wpAnyH_ready (rs := [7]) (by kernel_rfl) (by simp) (AllReadyH.cons rfl (fun K hK => ?_) AllReadyH.nil)
        rw [if_pos (by kernel_rfl)]
        refine wp_cap_putD rfl _ _ rfl 0 rfl HB.out (c.kind + 1) rfl { c with kind := c.kind + 1 } rfl ?_
        intro ws hb5 hg5 hs5
        replace HB := hide hb5
        replace HZ := hide (HZ.out.grown hg5 (by intro h; injection h with h; omega))
        have HX := hide (hHeld.grown hg5 hHeld.size (by intro k hk; simp at hk; omega))
        clear hb5 hg5 hs5
        refine hK.out _ _ HX.out (fun hHeld => ?_)
        clear HX hK K
        try simp only [Act.put, List.setIfInBounds_toArray, List.set_cons_zero, List.set_cons_succ]
        refine take_d 17 (i := 8) (v := .pointer (some ⟨g, 1, none⟩)) rfl (by kernel_rfl) (by kernel_rfl) (by kernel_rfl) (by kernel_rfl) (fun _ _ _ h => h) (Or.inl ⟨by kernel_rfl, fun w' hS => exec_field _ 1 1 rfl g rfl rfl⟩) hHeld ?_
        try simp only [Act.put, List.setIfInBounds_toArray, List.set_cons_zero, List.set_cons_succ]
        refine wpAnyH_ready (rs := [9]) (by kernel_rfl) (by simp) (AllReadyH.cons rfl (fun K hK => ?_) AllReadyH.nil)
        rw [if_pos (by kernel_rfl)]
        refine wp_cap_putKeyD rfl _ _ rfl rfl HB.out KR HKR.out.symm HKL.out ?_
        intro ws hb5 hg5 hs5
        replace HB := hide hb5
        replace HZ := hide (HZ.out.grown hg5 (by intro h; injection h with h; omega))
        have HX := hide (hHeld.grown hg5 hHeld.size (by intro k hk; simp at hk; omega))
        clear hb5 hg5 hs5
        refine hK.out _ _ HX.out (fun hHeld => ?_)
        clear HX hK K
        try simp only [Act.put, List.setIfInBounds_toArray, List.set_cons_zero, List.set_cons_succ]
        refine wpAnyH_done (by kernel_rfl) ?_ _
        replace HW := hide hHeld
        clear hHeld
        replace HB := hide (show CapB _ g C1 lit by rw [← HC1E.out]; exact HB.out)
        go_wp2_with (first
            | (refine wpList_cap_lit _ rfl rfl rfl HB.out ?_)
            | (at_builtin; refine wpList_append_B rfl _ _ rfl (g + 2) (.slice none 0 0) [] rfl (RowB.nil_ _ _) w.heap.size lit c.lit rfl (HL.out.below HW.out (Nat.le_refl _)) HLB.out (by simp; omega) (by have := HZ.out.lt; omega) ?_; intro l5 w5 ho5 hg5; rw [List.nil_append] at ho5; have HO5 := hide ho5; have L5 := hide ho5.one; replace HB := hide (HB.out.grown hg5 (by simp [Value.ownBlock])); replace HZ := hide (HZ.out.grown hg5 (by simp [Value.ownBlock])); replace HW := hide (HW.out.grown hg5 HW.out.size (by intro k hk; simp [Value.ownBlock] at hk)); clear ho5 hg5)
            | (refine wpList_cap_putLit _ _ rfl rfl rfl HB.out l5 rfl L5.out c.lit ?_; intro w6 hb6 hg6 hs6; replace HB := hide (show CapB w6 g C1 l5 from (by rw [← HC1L.out]; exact hb6)); replace HZ := hide (HZ.out.grown hg6 (by intro h; injection h with h; omega)); replace HO5 := hide (RowB.off HO5.out hg6 (by omega)); replace HW := hide (HW.out.grown hg6 HW.out.size (by intro k hk; simp at hk; omega)); clear hb6 hg6)
            | (refine wpList_cap_all _ rfl rfl rfl HB.out ?_)
            | (refine wpList_cap_putAll _ _ rfl rfl rfl HZ.out C1 l5 rfl HB.out.keyL HB.out.fpL HB.out.one ?_; intro w7 hb7 hg7 hs7; replace HZ := hide hb7; replace HO5 := hide (RowB.off HO5.out hg7 (by omega)); replace HW := hide (HW.out.grown hg7 HW.out.size (by intro k hk; simp at hk; omega)); clear hb7 hg7))
        refine bodyPost_ret (results_cap_err rfl _ _ (g + 1) _ _ rfl HZ.out _ rfl) rfl ?_
        exact ⟨l5, rfl, by rw [HCL.out]; exact HO5.out.reads, HW.out⟩
      case q2_4 =>
        rw [if_pos (by kernel_rfl)]
        refine wp_cap_keyD 14 rfl _ rfl rfl HB.out ?_
        rw [HKV.out]
        refine hK.out _ _ hHeld (fun hHeld => ?_)
        clear hK K
        try simp only [Act.put, List.setIfInBounds_toArray, List.set_cons_zero, List.set_cons_succ]
        refine wpAnyH_ready (rs := [1, 5]) (by kernel_rfl) (by simp) (AllReadyH.cons rfl (fun K hK => ?q7_1) (AllReadyH.cons rfl (fun K hK => ?q8_5) AllReadyH.nil))
        case q7_1 =>
          rw [if_pos (by kernel_rfl)]
          refine wp_cap_intD 11 rfl _ rfl 0 rfl HB.out _ rfl ?_
          refine hK.out _ _ hHeld (fun hHeld => ?_)
          clear hK K
          try simp only [Act.put, List.setIfInBounds_toArray, List.set_cons_zero, List.set_cons_succ]
          refine take_d 12 (i := 2) (v := .int .i64 (c.kind + 1)) rfl (by kernel_rfl) (by kernel_rfl) (by kernel_rfl) (by kernel_rfl) (fun _ _ _ h => h) (Or.inl ⟨by kernel_rfl, fun w' hS => exec_i64_add _ _ _ rfl _ _ _ rfl rfl (IntWalk.i64_in _ (by omega))⟩) hHeld ?_
          try simp only [Act.put, List.setIfInBounds_toArray, List.set_cons_zero, List.set_cons_succ]
          refine take_d 16 (i := 6) (v := .pointer (some ⟨g, 0, none⟩)) rfl (by kernel_rfl) (by kernel_rfl) (by kernel_rfl) (by kernel_rfl) (fun _ _ _ h => h) (Or.inl ⟨by kernel_rfl, fun w' hS => exec_field _ 0 0 rfl g rfl rfl⟩) hHeld ?_
          try simp only [Act.put, List.setIfInBounds_toArray, List.set_cons_zero, List.set_cons_succ]
          refine wpAnyH_ready (rs := [5]) (by kernel_rfl) (by simp) (AllReadyH.cons rfl (fun K hK => ?_) AllReadyH.nil)
          rw [if_pos (by kernel_rfl)]
          try go_simp
          refine (HSH.out _ ((HT.out.below hHeld (Nat.le_refl _)).more hHeld.size)).mono ?_
          rintro e wc ⟨rfl, hb⟩
          have HX := hide (hHeld.trans (hb.mono hHeld.size))
          replace HB := hide (HB.out.below hb HB.out.lt)
          replace HZ := hide (HZ.out.below hb HZ.out.lt)
          clear hb
          refine hK.out _ _ HX.out (fun hHeld => ?_)
          clear HX hK K
          try simp only [Act.put, List.setIfInBounds_toArray, List.set_cons_zero, List.set_cons_succ]
          refine wpAnyH_ready (rs := [7]) (by kernel_rfl) (by simp) (AllReadyH.cons rfl (fun K hK => ?_) AllReadyH.nil)
          rw [if_pos (by kernel_rfl)]
          refine wp_cap_putD rfl _ _ rfl 0 rfl HB.out (c.kind + 1) rfl { c with kind := c.kind + 1 } rfl ?_
          intro ws hb5 hg5 hs5
          replace HB := hide hb5
          replace HZ := hide (HZ.out.grown hg5 (by intro h; injection h with h; omega))
          have HX := hide (hHeld.grown hg5 hHeld.size (by intro k hk; simp at hk; omega))
          clear hb5 hg5 hs5
          refine hK.out _ _ HX.out (fun hHeld => ?_)
          clear HX hK K
          try simp only [Act.put, List.setIfInBounds_toArray, List.set_cons_zero, List.set_cons_succ]
          refine take_d 17 (i := 8) (v := .pointer (some ⟨g, 1, none⟩)) rfl (by kernel_rfl) (by kernel_rfl) (by kernel_rfl) (by kernel_rfl) (fun _ _ _ h => h) (Or.inl ⟨by kernel_rfl, fun w' hS => exec_field _ 1 1 rfl g rfl rfl⟩) hHeld ?_
          try simp only [Act.put, List.setIfInBounds_toArray, List.set_cons_zero, List.set_cons_succ]
          refine wpAnyH_ready (rs := [9]) (by kernel_rfl) (by simp) (AllReadyH.cons rfl (fun K hK => ?_) AllReadyH.nil)
          rw [if_pos (by kernel_rfl)]
          refine wp_cap_putKeyD rfl _ _ rfl rfl HB.out KR HKR.out.symm HKL.out ?_
          intro ws hb5 hg5 hs5
          replace HB := hide hb5
          replace HZ := hide (HZ.out.grown hg5 (by intro h; injection h with h; omega))
          have HX := hide (hHeld.grown hg5 hHeld.size (by intro k hk; simp at hk; omega))
          clear hb5 hg5 hs5
          refine hK.out _ _ HX.out (fun hHeld => ?_)
          clear HX hK K
          try simp only [Act.put, List.setIfInBounds_toArray, List.set_cons_zero, List.set_cons_succ]
          refine wpAnyH_done (by kernel_rfl) ?_ _
          replace HW := hide hHeld
          clear hHeld
          replace HB := hide (show CapB _ g C1 lit by rw [← HC1E.out]; exact HB.out)
          go_wp2_with (first
              | (refine wpList_cap_lit _ rfl rfl rfl HB.out ?_)
              | (at_builtin; refine wpList_append_B rfl _ _ rfl (g + 2) (.slice none 0 0) [] rfl (RowB.nil_ _ _) w.heap.size lit c.lit rfl (HL.out.below HW.out (Nat.le_refl _)) HLB.out (by simp; omega) (by have := HZ.out.lt; omega) ?_; intro l5 w5 ho5 hg5; rw [List.nil_append] at ho5; have HO5 := hide ho5; have L5 := hide ho5.one; replace HB := hide (HB.out.grown hg5 (by simp [Value.ownBlock])); replace HZ := hide (HZ.out.grown hg5 (by simp [Value.ownBlock])); replace HW := hide (HW.out.grown hg5 HW.out.size (by intro k hk; simp [Value.ownBlock] at hk)); clear ho5 hg5)
              | (refine wpList_cap_putLit _ _ rfl rfl rfl HB.out l5 rfl L5.out c.lit ?_; intro w6 hb6 hg6 hs6; replace HB := hide (show CapB w6 g C1 l5 from (by rw [← HC1L.out]; exact hb6)); replace HZ := hide (HZ.out.grown hg6 (by intro h; injection h with h; omega)); replace HO5 := hide (RowB.off HO5.out hg6 (by omega)); replace HW := hide (HW.out.grown hg6 HW.out.size (by intro k hk; simp at hk; omega)); clear hb6 hg6)
              | (refine wpList_cap_all _ rfl rfl rfl HB.out ?_)
              | (refine wpList_cap_putAll _ _ rfl rfl rfl HZ.out C1 l5 rfl HB.out.keyL HB.out.fpL HB.out.one ?_; intro w7 hb7 hg7 hs7; replace HZ := hide hb7; replace HO5 := hide (RowB.off HO5.out hg7 (by omega)); replace HW := hide (HW.out.grown hg7 HW.out.size (by intro k hk; simp at hk; omega)); clear hb7 hg7))
          refine bodyPost_ret (results_cap_err rfl _ _ (g + 1) _ _ rfl HZ.out _ rfl) rfl ?_
          exact ⟨l5, rfl, by rw [HCL.out]; exact HO5.out.reads, HW.out⟩
        case q8_5 =>
          rw [if_pos (by kernel_rfl)]
          try go_simp
          refine (HSH.out _ ((HT.out.below hHeld (Nat.le_refl _)).more hHeld.size)).mono ?_
          rintro e wc ⟨rfl, hb⟩
          have HX := hide (hHeld.trans (hb.mono hHeld.size))
          replace HB := hide (HB.out.below hb HB.out.lt)
          replace HZ := hide (HZ.out.below hb HZ.out.lt)
          clear hb
          refine hK.out _ _ HX.out (fun hHeld => ?_)
          clear HX hK K
          try simp only [Act.put, List.setIfInBounds_toArray, List.set_cons_zero, List.set_cons_succ]
          refine wpAnyH_ready (rs := [1]) (by kernel_rfl) (by simp) (AllReadyH.cons rfl (fun K hK => ?_) AllReadyH.nil)
          rw [if_pos (by kernel_rfl)]
          refine wp_cap_intD 11 rfl _ rfl 0 rfl HB.out _ rfl ?_
          refine hK.out _ _ hHeld (fun hHeld => ?_)
          clear hK K
          try simp only [Act.put, List.setIfInBounds_toArray, List.set_cons_zero, List.set_cons_succ]
          refine take_d 12 (i := 2) (v := .int .i64 (c.kind + 1)) rfl (by kernel_rfl) (by kernel_rfl) (by kernel_rfl) (by kernel_rfl) (fun _ _ _ h => h) (Or.inl ⟨by kernel_rfl, fun w' hS => exec_i64_add _ _ _ rfl _ _ _ rfl rfl (IntWalk.i64_in _ (by omega))⟩) hHeld ?_
          try simp only [Act.put, List.setIfInBounds_toArray, List.set_cons_zero, List.set_cons_succ]
          refine take_d 16 (i := 6) (v := .pointer (some ⟨g, 0, none⟩)) rfl (by kernel_rfl) (by kernel_rfl) (by kernel_rfl) (by kernel_rfl) (fun _ _ _ h => h) (Or.inl ⟨by kernel_rfl, fun w' hS => exec_field _ 0 0 rfl g rfl rfl⟩) hHeld ?_
          try simp only [Act.put, List.setIfInBounds_toArray, List.set_cons_zero, List.set_cons_succ]
          refine wpAnyH_ready (rs := [7]) (by kernel_rfl) (by simp) (AllReadyH.cons rfl (fun K hK => ?_) AllReadyH.nil)
          rw [if_pos (by kernel_rfl)]
          refine wp_cap_putD rfl _ _ rfl 0 rfl HB.out (c.kind + 1) rfl { c with kind := c.kind + 1 } rfl ?_
          intro ws hb5 hg5 hs5
          replace HB := hide hb5
          replace HZ := hide (HZ.out.grown hg5 (by intro h; injection h with h; omega))
          have HX := hide (hHeld.grown hg5 hHeld.size (by intro k hk; simp at hk; omega))
          clear hb5 hg5 hs5
          refine hK.out _ _ HX.out (fun hHeld => ?_)
          clear HX hK K
          try simp only [Act.put, List.setIfInBounds_toArray, List.set_cons_zero, List.set_cons_succ]
          refine take_d 17 (i := 8) (v := .pointer (some ⟨g, 1, none⟩)) rfl (by kernel_rfl) (by kernel_rfl) (by kernel_rfl) (by kernel_rfl) (fun _ _ _ h => h) (Or.inl ⟨by kernel_rfl, fun w' hS => exec_field _ 1 1 rfl g rfl rfl⟩) hHeld ?_
          try simp only [Act.put, List.setIfInBounds_toArray, List.set_cons_zero, List.set_cons_succ]
          refine wpAnyH_ready (rs := [9]) (by kernel_rfl) (by simp) (AllReadyH.cons rfl (fun K hK => ?_) AllReadyH.nil)
          rw [if_pos (by kernel_rfl)]
          refine wp_cap_putKeyD rfl _ _ rfl rfl HB.out KR HKR.out.symm HKL.out ?_
          intro ws hb5 hg5 hs5
          replace HB := hide hb5
          replace HZ := hide (HZ.out.grown hg5 (by intro h; injection h with h; omega))
          have HX := hide (hHeld.grown hg5 hHeld.size (by intro k hk; simp at hk; omega))
          clear hb5 hg5 hs5
          refine hK.out _ _ HX.out (fun hHeld => ?_)
          clear HX hK K
          try simp only [Act.put, List.setIfInBounds_toArray, List.set_cons_zero, List.set_cons_succ]
          refine wpAnyH_done (by kernel_rfl) ?_ _
          replace HW := hide hHeld
          clear hHeld
          replace HB := hide (show CapB _ g C1 lit by rw [← HC1E.out]; exact HB.out)
          go_wp2_with (first
              | (refine wpList_cap_lit _ rfl rfl rfl HB.out ?_)
              | (at_builtin; refine wpList_append_B rfl _ _ rfl (g + 2) (.slice none 0 0) [] rfl (RowB.nil_ _ _) w.heap.size lit c.lit rfl (HL.out.below HW.out (Nat.le_refl _)) HLB.out (by simp; omega) (by have := HZ.out.lt; omega) ?_; intro l5 w5 ho5 hg5; rw [List.nil_append] at ho5; have HO5 := hide ho5; have L5 := hide ho5.one; replace HB := hide (HB.out.grown hg5 (by simp [Value.ownBlock])); replace HZ := hide (HZ.out.grown hg5 (by simp [Value.ownBlock])); replace HW := hide (HW.out.grown hg5 HW.out.size (by intro k hk; simp [Value.ownBlock] at hk)); clear ho5 hg5)
              | (refine wpList_cap_putLit _ _ rfl rfl rfl HB.out l5 rfl L5.out c.lit ?_; intro w6 hb6 hg6 hs6; replace HB := hide (show CapB w6 g C1 l5 from (by rw [← HC1L.out]; exact hb6)); replace HZ := hide (HZ.out.grown hg6 (by intro h; injection h with h; omega)); replace HO5 := hide (RowB.off HO5.out hg6 (by omega)); replace HW := hide (HW.out.grown hg6 HW.out.size (by intro k hk; simp at hk; omega)); clear hb6 hg6)
              | (refine wpList_cap_all _ rfl rfl rfl HB.out ?_)
              | (refine wpList_cap_putAll _ _ rfl rfl rfl HZ.out C1 l5 rfl HB.out.keyL HB.out.fpL HB.out.one ?_; intro w7 hb7 hg7 hs7; replace HZ := hide hb7; replace HO5 := hide (RowB.off HO5.out hg7 (by omega)); replace HW := hide (HW.out.grown hg7 HW.out.size (by intro k hk; simp at hk; omega)); clear hb7 hg7))
          refine bodyPost_ret (results_cap_err rfl _ _ (g + 1) _ _ rfl HZ.out _ rfl) rfl ?_
          exact ⟨l5, rfl, by rw [HCL.out]; exact HO5.out.reads, HW.out⟩
    · have HWR := hide (fun w => by have := write_any c lit w hc; rw [Bool.not_eq_true _ |>.mp hw, HCV.out] at this; exact this)
      obtain ⟨C1, HC1⟩ : ∃ x, Hid (c = x) := ⟨_, hide rfl⟩
      have HC1E := hide (show roF c = C1 by rw [← HC1.out]; unfold roF; rw [if_pos hr, if_neg hw])
      have HC1L := hide (show { c with lit := c.lit } = C1 from HC1.out)
      have HCL := hide (show C1.lit = c.lit by rw [← HC1.out])
      rw [HC1E.out, HE.out]
      clear hr hw hc hwf hl ht
      rw [HCV.out]
      go_enter Tryd.func39, Tryd.ntmps39
      obtain ⟨g, hg⟩ : ∃ n, w.heap.size = n := ⟨_, rfl⟩
      go_wp2_with (first
          | (refine wpList_cap_new _ rfl HCV.out.symm rfl H1.out H2.out H3.out ?_; intro w1 hb1 hw1 hs1; rw [hg] at hb1 ⊢; have HB := hide hb1; have HW := hide hw1; clear hb1 hw1)
          | (refine wpList_cap_zero rfl rfl ?_; rw [HNN.out]; intro w2 hb2 hw2 hs2; have hg2 : w1.heap.size = g + 1 := (by omega); rw [hg2] at hb2; try rw [hg2]; have HZ := hide hb2; replace HB := hide (HB.out.below hw2 HB.out.lt); replace HW := hide (HW.out.trans (hw2.mono HW.out.size)); clear hb2 hw2)
          | (refine wpList_cap_all _ rfl rfl rfl HB.out ?_; rw [HCV.out]))
      refine (HRD.out _).mono ?_
      rintro e w3 ⟨rfl, hb3⟩
      replace HB := hide (HB.out.below hb3 HB.out.lt)
      replace HZ := hide (HZ.out.below hb3 HZ.out.lt)
      replace HW := hide (HW.out.trans (hb3.mono HW.out.size))
      clear hb3
      go_wp2_with (refine wpList_cap_all _ rfl rfl rfl HB.out ?_; rw [HCV.out])
      refine (HWR.out _).mono ?_
      rintro e w3 ⟨rfl, hb3⟩
      replace HB := hide (HB.out.below hb3 HB.out.lt)
      replace HZ := hide (HZ.out.below hb3 HZ.out.lt)
      replace HW := hide (HW.out.trans (hb3.mono HW.out.size))
      clear hb3
      go_wp2_with (first
          | (refine wpList_cap_lit _ rfl rfl rfl HB.out ?_)
          | (at_builtin; refine wpList_append_B rfl _ _ rfl (g + 2) (.slice none 0 0) [] rfl (RowB.nil_ _ _) w.heap.size lit c.lit rfl (HL.out.below HW.out (Nat.le_refl _)) HLB.out (by simp; omega) (by have := HZ.out.lt; omega) ?_; intro l5 w5 ho5 hg5; rw [List.nil_append] at ho5; have HO5 := hide ho5; have L5 := hide ho5.one; replace HB := hide (HB.out.grown hg5 (by simp [Value.ownBlock])); replace HZ := hide (HZ.out.grown hg5 (by simp [Value.ownBlock])); replace HW := hide (HW.out.grown hg5 HW.out.size (by intro k hk; simp [Value.ownBlock] at hk)); clear ho5 hg5)
          | (refine wpList_cap_putLit _ _ rfl rfl rfl HB.out l5 rfl L5.out c.lit ?_; intro w6 hb6 hg6 hs6; replace HB := hide (show CapB w6 g C1 l5 from (by rw [← HC1L.out]; exact hb6)); replace HZ := hide (HZ.out.grown hg6 (by intro h; injection h with h; omega)); replace HO5 := hide (RowB.off HO5.out hg6 (by omega)); replace HW := hide (HW.out.grown hg6 HW.out.size (by intro k hk; simp at hk; omega)); clear hb6 hg6)
          | (refine wpList_cap_all _ rfl rfl rfl HB.out ?_)
          | (refine wpList_cap_putAll _ _ rfl rfl rfl HZ.out C1 l5 rfl HB.out.keyL HB.out.fpL HB.out.one ?_; intro w7 hb7 hg7 hs7; replace HZ := hide hb7; replace HO5 := hide (RowB.off HO5.out hg7 (by omega)); replace HW := hide (HW.out.grown hg7 HW.out.size (by intro k hk; simp at hk; omega)); clear hb7 hg7))
      refine bodyPost_ret (results_cap_err rfl _ _ (g + 1) _ _ rfl HZ.out _ rfl) rfl ?_
      exact ⟨l5, rfl, by rw [HCL.out]; exact HO5.out.reads, HW.out⟩
  · have HRD := hide (fun w => by have := read_any c lit w hc; rw [Bool.not_eq_true _ |>.mp hr, HCV.out] at this; exact this)
    have HE := hide (show roE c = 11 by unfold roE; rw [if_neg hr])
    have HC1 := hide (show roF c = NN by rw [← HNN.out]; unfold roF; rw [if_neg hr])
    rw [HC1.out, HE.out]
    clear hr hc hwf hl ht
    rw [HCV.out]
    go_enter Tryd.func39, Tryd.ntmps39
    obtain ⟨g, hg⟩ : ∃ n, w.heap.size = n := ⟨_, rfl⟩
    go_wp2_with (first
        | (refine wpList_cap_new _ rfl HCV.out.symm rfl H1.out H2.out H3.out ?_; intro w1 hb1 hw1 hs1; rw [hg] at hb1 ⊢; have HB := hide hb1; have HW := hide hw1; clear hb1 hw1)
        | (refine wpList_cap_zero rfl rfl ?_; rw [HNN.out]; intro w2 hb2 hw2 hs2; have hg2 : w1.heap.size = g + 1 := (by omega); rw [hg2] at hb2; try rw [hg2]; have HZ := hide hb2; replace HB := hide (HB.out.below hw2 HB.out.lt); replace HW := hide (HW.out.trans (hw2.mono HW.out.size)); clear hb2 hw2)
        | (refine wpList_cap_all _ rfl rfl rfl HB.out ?_; rw [HCV.out]))
    refine (HRD.out _).mono ?_
    rintro e w3 ⟨rfl, hb3⟩
    replace HB := hide (HB.out.below hb3 HB.out.lt)
    replace HZ := hide (HZ.out.below hb3 HZ.out.lt)
    replace HW := hide (HW.out.trans (hb3.mono HW.out.size))
    clear hb3
    go_wp2_with (first
        | (refine wpList_none_cap rfl rfl ?_; rw [HNN.out])
        | (refine wpList_cap_putAll _ _ rfl rfl rfl HZ.out NN (.slice none 0 0) rfl HN1.out HN2.out rfl ?_; intro w6 hb6 hg6 hs6; replace HZ := hide hb6; replace HW := hide (HW.out.grown hg6 HW.out.size (by intro k hk; simp at hk; omega)); clear hb6 hg6))
    refine bodyPost_ret (results_cap_err rfl _ _ (g + 1) _ _ rfl HZ.out _ rfl) rfl ?_
    exact ⟨_, rfl, by rw [HNL.out]; exact Bs.nil_ _ _, HW.out⟩
end Go.Proofs.YtgjepahhbecljaaDoor

namespace Go.Proofs.YtgjepahhbecljaaDoor
open Go Go.RowKit
set_option linter.unusedVariables false
set_option linter.unusedSimpArgs false
set_option maxRecDepth 100000
set_option maxHeartbeats 8000000
theorem roF_kind {c : CapD} (h : readF c = true) : 1 ≤ (roF c).kind ∧ (roF c).kind ≤ 10 := by
  have := valid_kind (readF_kind h).1
  unfold roF
  rw [if_pos h]
  split
  · show 1 ≤ c.kind + 1 ∧ c.kind + 1 ≤ 10
    omega
  · omega
theorem VerifyOnly_any (c : CapD) (lit : Value) (w : World) (hwf : c.Wf) (hl : Bs w w.heap.size lit c.lit) (hn : c.lit.length ≤ 1000000) (ht : Tab w w.heap.size) :
    Calls Tryd.prog 41 #[capV c lit] w fun e w' => ∃ l', e = .returned (.tuple #[capV (voF c) l', .int .i64 (voE c)]) ∧ Bs w' w'.heap.size l' (voF c).lit ∧ Below w.heap.size w w' := by
  have hc := capV_of hwf.keyL hwf.fpL hl
  have H1 := hide hwf.keyL
  have H2 := hide hwf.fpL
  have H3 := hide hl.one
  have HL := hide hl
  have HLB := hide hwf.litB
  have HWF := hide hwf
  have HT := hide ht
  obtain ⟨NN, HNN⟩ : ∃ x, Hid (CapD.none_ = x) := ⟨_, hide rfl⟩
  have HN1 := hide (show NN.key.length = 16 by rw [← HNN.out]; rfl)
  have HN2 := hide (show NN.fp.length = 32 by rw [← HNN.out]; rfl)
  have HNL := hide (show NN.lit = [] by rw [← HNN.out]; rfl)
  obtain ⟨CV, HCV⟩ : ∃ x, Hid (capV c lit = x) := ⟨_, hide rfl⟩
  by_cases hv : decide c.Valid = true
  · have HVA := hide (fun w => by have := Valid_any c lit w hc; rw [hv, HCV.out] at this; exact this)
    by_cases h3 : c.kind = 3
    · have e3 : (c.kind == 3) = true := by simp [h3]
      have HF := hide (show voF c = NN ∧ voE c = 11 by rw [← HNN.out]; unfold voF voE; simp [h3])
      rw [HF.out.1, HF.out.2]
      clear hv hc hwf hl ht h3
      rw [HCV.out]
      go_enter Tryd.func41, Tryd.ntmps41
      obtain ⟨g, hg⟩ : ∃ n, w.heap.size = n := ⟨_, rfl⟩
      go_wp2_with (first
          | go_skip
          | (refine wpList_cap_new _ rfl HCV.out.symm rfl H1.out H2.out H3.out ?_; intro w1 hb1 hw1 hs1; rw [hg] at hb1 ⊢; have HB := hide hb1; have HW := hide hw1; clear hb1 hw1)
          | (refine wpList_cap_zero rfl rfl ?_; rw [HNN.out]; intro w2 hb2 hw2 hs2; have hg2 : w1.heap.size = g + 1 := (by omega); rw [hg2] at hb2; try rw [hg2]; have HZ := hide hb2; replace HB := hide (HB.out.below hw2 HB.out.lt); replace HW := hide (HW.out.trans (hw2.mono HW.out.size)); clear hb2 hw2)
          | (refine wpList_cap_all _ rfl rfl rfl HB.out ?_; rw [HCV.out]))
      refine (HVA.out _).mono ?_
      rintro e w3 ⟨rfl, hb3⟩
      replace HB := hide (HB.out.below hb3 HB.out.lt)
      replace HZ := hide (HZ.out.below hb3 HZ.out.lt)
      replace HW := hide (HW.out.trans (hb3.mono HW.out.size))
      clear hb3
      go_wp2_with (first
          | go_skip
          | (refine wpList_cap_int _ rfl _ rfl rfl HB.out _ rfl ?_)
          | (refine wpList_none_cap rfl rfl ?_; rw [HNN.out])
          | (refine wpList_cap_putAll _ _ rfl rfl rfl HZ.out NN (.slice none 0 0) rfl HN1.out HN2.out rfl ?_; intro w6 hb6 hg6 hs6; replace HZ := hide hb6; replace HW := hide (HW.out.grown hg6 HW.out.size (by intro k hk; simp at hk; omega)); clear hb6 hg6))
      refine bodyPost_ret (results_cap_err rfl _ _ (g + 1) _ _ rfl HZ.out _ rfl) rfl ?_
      exact ⟨_, rfl, by rw [HNL.out]; exact Bs.nil_ _ _, HW.out⟩
    · have e3 : (c.kind == 3) = false := by simp [h3]
      have hok : (decide c.Valid && (c.kind != 3)) = true := by rw [hv]; simp [h3]
      have HE := hide (show voE c = 0 by unfold voE; rw [if_pos hok])
      have hVd : c.Valid := of_decide_eq_true hv
      have hcl : c.lit = [] := valid_lit hVd h3
      obtain ⟨C1, HC1⟩ : ∃ x, Hid (voF c = x) := ⟨_, hide rfl⟩
      have HC1N := hide (show C1.lit = [] by rw [← HC1.out]; exact voF_lit)
      by_cases hr : readF c = true
      · have HRD := hide (fun w => by have := read_any c lit w hc; rw [hr, HCV.out] at this; exact this)
        have HROE := hide (show roE c = 0 by unfold roE; rw [if_pos hr])
        obtain ⟨C2, HC2⟩ : ∃ x, Hid (roF c = x) := ⟨_, hide rfl⟩
        have hkd : 1 ≤ C2.kind ∧ C2.kind ≤ 10 := by rw [← HC2.out]; exact roF_kind hr
        have HRO := hide (fun w' (hw' : Below w.heap.size w w') => by
          have := ReadOnly_any c lit w' hwf ((hl.below hw' (Nat.le_refl _)).more hw'.size) hn ((ht.below hw' (Nat.le_refl _)).more hw'.size)
          rw [HCV.out, HC2.out, HROE.out] at this; exact this)
        have hwf2 : C2.Wf := by rw [← HC2.out]; exact roF_wf hwf
        obtain ⟨KV, HKV⟩ : ∃ x, Hid (Value.agg (u8s C2.key).toArray = x) := ⟨_, hide rfl⟩
        obtain ⟨KR, HKR0⟩ : ∃ x, Hid (keyF tIndex C2.key = x) := ⟨_, hide rfl⟩
        have HKL := hide (show KR.length = 16 by rw [← HKR0.out]; exact keyF_len _ _)
        obtain ⟨KRV, HKR⟩ : ∃ x, Hid (Value.agg (u8s KR).toArray = x) := ⟨_, hide rfl⟩
        have HSH := hide (fun w' (ht : Tab w' w'.heap.size) => by have := short_any tIndex C2.key w' hwf2.keyL hwf2.keyB (by decide) ht; rw [HKV.out, HKR0.out, HKR.out] at this; exact this)
        have HCK := hide hwf2.keyL
        have HCF := hide hwf2.fpL
        have HC1L := hide (show ({ C2 with kind := C2.kind + 1, key := KR, lit := [] } : CapD) = C1 by
          have e : voF c = { C2 with kind := C2.kind + 1, key := KR } := by unfold voF; rw [if_pos hok, if_pos hr, HC2.out, HKR0.out]
          have l := HC1N.out
          rw [← HC1.out, e] at l
          have l2 : C2.lit = [] := l
          rw [← HC1.out, e, l2])
        rw [HC1.out, HE.out]
        clear hv hc hwf hl ht h3 hok hVd hcl hr hwf2
        rw [HCV.out]
        go_enter Tryd.func41, Tryd.ntmps41
        obtain ⟨g, hg⟩ : ∃ n, w.heap.size = n := ⟨_, rfl⟩
        go_wp2_with (first
            | go_skip
            | (refine wpList_cap_new _ rfl HCV.out.symm rfl H1.out H2.out H3.out ?_; intro w1 hb1 hw1 hs1; rw [hg] at hb1 ⊢; have HB := hide hb1; have HW := hide hw1; clear hb1 hw1)
            | (refine wpList_cap_zero rfl rfl ?_; rw [HNN.out]; intro w2 hb2 hw2 hs2; have hg2 : w1.heap.size = g + 1 := (by omega); rw [hg2] at hb2; try rw [hg2]; have HZ := hide hb2; replace HB := hide (HB.out.below hw2 HB.out.lt); replace HW := hide (HW.out.trans (hw2.mono HW.out.size)); clear hb2 hw2)
            | (refine wpList_cap_all _ rfl rfl rfl HB.out ?_; rw [HCV.out]))
        refine (HVA.out _).mono ?_
        rintro e w3 ⟨rfl, hb3⟩
        replace HB := hide (HB.out.below hb3 HB.out.lt)
        replace HZ := hide (HZ.out.below hb3 HZ.out.lt)
        replace HW := hide (HW.out.trans (hb3.mono HW.out.size))
        clear hb3
        go_wp2_with (first
            | go_skip
            | (refine wpList_cap_int _ rfl _ rfl rfl HB.out _ rfl ?_)
            | (refine wpList_cap_all _ rfl rfl rfl HB.out ?_; rw [HCV.out]))
        refine (HRD.out _).mono ?_
        rintro e w3 ⟨rfl, hb3⟩
        replace HB := hide (HB.out.below hb3 HB.out.lt)
        replace HZ := hide (HZ.out.below hb3 HZ.out.lt)
        replace HW := hide (HW.out.trans (hb3.mono HW.out.size))
        clear hb3
        go_wp2_with (refine wpList_cap_all _ rfl rfl rfl HB.out ?_; rw [HCV.out])
        refine (HRO.out _ HW.out).mono ?_
        rintro e w5 ⟨l5, rfl, hl5, hb5⟩
        have L5 := hide hl5.one
        replace HB := hide (HB.out.below hb5 HB.out.lt)
        replace HZ := hide (HZ.out.below hb5 HZ.out.lt)
        replace HW := hide (HW.out.trans (hb5.mono HW.out.size))
        clear hb5 hl5
        go_upto_region 5 with (refine wpList_cap_putAll _ _ rfl rfl rfl HB.out C2 l5 rfl HCK.out HCF.out L5.out ?_; intro w6 hb6 hg6 hs6; replace HB := hide hb6; replace HZ := hide (HZ.out.grown hg6 (by intro h; injection h with h; omega)); replace HW := hide (HW.out.grown hg6 HW.out.size (by intro k hk; simp at hk; omega)); clear hb6 hg6)
        refine wp_region_held_drew (S := fun w' => Below w.heap.size w w') (by kernel_rfl) HW.out.drew (fun hHeld => ?_)
        replace HB := hide (HB.out.below ((Below.refl _ _).drew) HB.out.lt)
        replace HZ := hide (HZ.out.below ((Below.refl _ _).drew) HZ.out.lt)
        refine take_d 20 (i := 0) (v := .pointer (some ⟨g, 0, none⟩)) rfl (by kernel_rfl) (by kernel_rfl) (by kernel_rfl) (by kernel_rfl) (fun _ _ _ h => h) (Or.inl ⟨by kernel_rfl, fun w' hS => exec_field _ 0 0 rfl g rfl rfl⟩) hHeld ?_
        try simp only [Act.put, List.setIfInBounds_toArray, List.set_cons_zero, List.set_cons_succ]
        refine take_d 23 (i := 3) (v := .pointer (some ⟨g, 1, none⟩)) rfl (by kernel_rfl) (by kernel_rfl) (by kernel_rfl) (by kernel_rfl) (fun _ _ _ h => h) (Or.inl ⟨by kernel_rfl, fun w' hS => exec_field _ 1 1 rfl g rfl rfl⟩) hHeld ?_
        try simp only [Act.put, List.setIfInBounds_toArray, List.set_cons_zero, List.set_cons_succ]
        refine wpAnyH_ready (rs := [1, 4]) (by kernel_rfl) (by simp) (AllReadyH.cons rfl (fun K hK => ?q1_1) (AllReadyH.cons rfl (fun K hK => ?q2_4) AllReadyH.nil))
        case q1_1 =>
          rw [if_pos (by kernel_rfl)]
          refine wp_cap_intD 21 rfl _ rfl 0 rfl HB.out _ rfl ?_
          refine hK.out _ _ hHeld (fun hHeld => ?_)
          clear hK K
          try simp only [Act.put, List.setIfInBounds_toArray, List.set_cons_zero, List.set_cons_succ]
          refine take_d 22 (i := 2) (v := .int .i64 (C2.kind + 1)) rfl (by kernel_rfl) (by kernel_rfl) (by kernel_rfl) (by kernel_rfl) (fun _ _ _ h => h) (Or.inl ⟨by kernel_rfl, fun w' hS => exec_i64_add _ _ _ rfl _ _ _ rfl rfl (IntWalk.i64_in _ (by omega))⟩) hHeld ?_
          try simp only [Act.put, List.setIfInBounds_toArray, List.set_cons_zero, List.set_cons_succ]
          refine wpAnyH_ready (rs := [4]) (by kernel_rfl) (by simp) (AllReadyH.cons rfl (fun K hK => ?_) AllReadyH.nil)
          rw [if_pos (by kernel_rfl)]
          refine wp_cap_keyD 24 rfl _ rfl rfl HB.out ?_
          rw [HKV.out]
          refine hK.out _ _ hHeld (fun hHeld => ?_)
          clear hK K
          try simp only [Act.put, List.setIfInBounds_toArray, List.set_cons_zero, List.set_cons_succ]
          refine take_d 26 (i := 6) (v := .pointer (some ⟨g, 0, none⟩)) rfl (by kernel_rfl) (by kernel_rfl) (by kernel_rfl) (by kernel_rfl) (fun _ _ _ h => h) (Or.inl ⟨by kernel_rfl, fun w' hS => exec_field _ 0 0 rfl g rfl rfl⟩) hHeld ?_
          try simp only [Act.put, List.setIfInBounds_toArray, List.set_cons_zero, List.set_cons_succ]
          refine wpAnyH_ready (rs := [5]) (by kernel_rfl) (by simp) (AllReadyH.cons rfl (fun K hK => ?_) AllReadyH.nil)
          rw [if_pos (by kernel_rfl)]
          try go_simp
          refine (HSH.out _ ((HT.out.below hHeld (Nat.le_refl _)).more hHeld.size)).mono ?_
          rintro e wc ⟨rfl, hb⟩
          have HX := hide (hHeld.trans (hb.mono hHeld.size))
          replace HB := hide (HB.out.below hb HB.out.lt)
          replace HZ := hide (HZ.out.below hb HZ.out.lt)
          clear hb
          refine hK.out _ _ HX.out (fun hHeld => ?_)
          clear HX hK K
          try simp only [Act.put, List.setIfInBounds_toArray, List.set_cons_zero, List.set_cons_succ]
          refine wpAnyH_ready (rs := [7]) (by kernel_rfl) (by simp) (AllReadyH.cons rfl (fun K hK => ?_) AllReadyH.nil)
          rw [if_pos (by kernel_rfl)]
          refine wp_cap_putD rfl _ _ rfl 0 rfl HB.out (C2.kind + 1) rfl { C2 with kind := C2.kind + 1 } rfl ?_
          intro ws hb5 hg5 hs5
          replace HB := hide hb5
          replace HZ := hide (HZ.out.grown hg5 (by intro h; injection h with h; omega))
          have HX := hide (hHeld.grown hg5 hHeld.size (by intro k hk; simp at hk; omega))
          clear hb5 hg5 hs5
          refine hK.out _ _ HX.out (fun hHeld => ?_)
          clear HX hK K
          try simp only [Act.put, List.setIfInBounds_toArray, List.set_cons_zero, List.set_cons_succ]
          refine take_d 27 (i := 8) (v := .pointer (some ⟨g, 1, none⟩)) rfl (by kernel_rfl) (by kernel_rfl) (by kernel_rfl) (by kernel_rfl) (fun _ _ _ h => h) (Or.inl ⟨by kernel_rfl, fun w' hS => exec_field _ 1 1 rfl g rfl rfl⟩) hHeld ?_
          try simp only [Act.put, List.setIfInBounds_toArray, List.set_cons_zero, List.set_cons_succ]
          refine wpAnyH_ready (rs := [9]) (by kernel_rfl) (by simp) (AllReadyH.cons rfl (fun K hK => ?_) AllReadyH.nil)
          rw [if_pos (by kernel_rfl)]
          refine wp_cap_putKeyD rfl _ _ rfl rfl HB.out KR HKR.out.symm HKL.out ?_
          intro ws hb5 hg5 hs5
          replace HB := hide hb5
          replace HZ := hide (HZ.out.grown hg5 (by intro h; injection h with h; omega))
          have HX := hide (hHeld.grown hg5 hHeld.size (by intro k hk; simp at hk; omega))
          clear hb5 hg5 hs5
          refine hK.out _ _ HX.out (fun hHeld => ?_)
          clear HX hK K
          try simp only [Act.put, List.setIfInBounds_toArray, List.set_cons_zero, List.set_cons_succ]
          refine wpAnyH_done (by kernel_rfl) ?_ _
          replace HW := hide hHeld
          clear hHeld
          go_wp2_with (first
              | (refine wpList_cap_putLit _ _ rfl rfl rfl HB.out (.slice none 0 0) rfl rfl [] ?_; intro w6 hb6 hg6 hs6; replace HB := hide (show CapB w6 g C1 (.slice none 0 0) from (by rw [← HC1L.out]; exact hb6)); replace HZ := hide (HZ.out.grown hg6 (by intro h; injection h with h; omega)); replace HW := hide (HW.out.grown hg6 HW.out.size (by intro k hk; simp at hk; omega)); clear hb6 hg6)
              | (refine wpList_cap_all _ rfl rfl rfl HB.out ?_)
              | (refine wpList_cap_putAll _ _ rfl rfl rfl HZ.out C1 (.slice none 0 0) rfl HB.out.keyL HB.out.fpL HB.out.one ?_; intro w7 hb7 hg7 hs7; replace HZ := hide hb7; replace HW := hide (HW.out.grown hg7 HW.out.size (by intro k hk; simp at hk; omega)); clear hb7 hg7))
          refine bodyPost_ret (results_cap_err rfl _ _ (g + 1) _ _ rfl HZ.out _ rfl) rfl ?_
          exact ⟨_, rfl, by rw [HC1N.out]; exact Bs.nil_ _ _, HW.out⟩
        case q2_4 =>
          rw [if_pos (by kernel_rfl)]
          refine wp_cap_keyD 24 rfl _ rfl rfl HB.out ?_
          rw [HKV.out]
          refine hK.out _ _ hHeld (fun hHeld => ?_)
          clear hK K
          try simp only [Act.put, List.setIfInBounds_toArray, List.set_cons_zero, List.set_cons_succ]
          refine wpAnyH_ready (rs := [1, 5]) (by kernel_rfl) (by simp) (AllReadyH.cons rfl (fun K hK => ?q7_1) (AllReadyH.cons rfl (fun K hK => ?q8_5) AllReadyH.nil))
          case q7_1 =>
            rw [if_pos (by kernel_rfl)]
            refine wp_cap_intD 21 rfl _ rfl 0 rfl HB.out _ rfl ?_
            refine hK.out _ _ hHeld (fun hHeld => ?_)
            clear hK K
            try simp only [Act.put, List.setIfInBounds_toArray, List.set_cons_zero, List.set_cons_succ]
            refine take_d 22 (i := 2) (v := .int .i64 (C2.kind + 1)) rfl (by kernel_rfl) (by kernel_rfl) (by kernel_rfl) (by kernel_rfl) (fun _ _ _ h => h) (Or.inl ⟨by kernel_rfl, fun w' hS => exec_i64_add _ _ _ rfl _ _ _ rfl rfl (IntWalk.i64_in _ (by omega))⟩) hHeld ?_
            try simp only [Act.put, List.setIfInBounds_toArray, List.set_cons_zero, List.set_cons_succ]
            refine take_d 26 (i := 6) (v := .pointer (some ⟨g, 0, none⟩)) rfl (by kernel_rfl) (by kernel_rfl) (by kernel_rfl) (by kernel_rfl) (fun _ _ _ h => h) (Or.inl ⟨by kernel_rfl, fun w' hS => exec_field _ 0 0 rfl g rfl rfl⟩) hHeld ?_
            try simp only [Act.put, List.setIfInBounds_toArray, List.set_cons_zero, List.set_cons_succ]
            refine wpAnyH_ready (rs := [5]) (by kernel_rfl) (by simp) (AllReadyH.cons rfl (fun K hK => ?_) AllReadyH.nil)
            rw [if_pos (by kernel_rfl)]
            try go_simp
            refine (HSH.out _ ((HT.out.below hHeld (Nat.le_refl _)).more hHeld.size)).mono ?_
            rintro e wc ⟨rfl, hb⟩
            have HX := hide (hHeld.trans (hb.mono hHeld.size))
            replace HB := hide (HB.out.below hb HB.out.lt)
            replace HZ := hide (HZ.out.below hb HZ.out.lt)
            clear hb
            refine hK.out _ _ HX.out (fun hHeld => ?_)
            clear HX hK K
            try simp only [Act.put, List.setIfInBounds_toArray, List.set_cons_zero, List.set_cons_succ]
            refine wpAnyH_ready (rs := [7]) (by kernel_rfl) (by simp) (AllReadyH.cons rfl (fun K hK => ?_) AllReadyH.nil)
            rw [if_pos (by kernel_rfl)]
            refine wp_cap_putD rfl _ _ rfl 0 rfl HB.out (C2.kind + 1) rfl { C2 with kind := C2.kind + 1 } rfl ?_
            intro ws hb5 hg5 hs5
            replace HB := hide hb5
            replace HZ := hide (HZ.out.grown hg5 (by intro h; injection h with h; omega))
            have HX := hide (hHeld.grown hg5 hHeld.size (by intro k hk; simp at hk; omega))
            clear hb5 hg5 hs5
            refine hK.out _ _ HX.out (fun hHeld => ?_)
            clear HX hK K
            try simp only [Act.put, List.setIfInBounds_toArray, List.set_cons_zero, List.set_cons_succ]
            refine take_d 27 (i := 8) (v := .pointer (some ⟨g, 1, none⟩)) rfl (by kernel_rfl) (by kernel_rfl) (by kernel_rfl) (by kernel_rfl) (fun _ _ _ h => h) (Or.inl ⟨by kernel_rfl, fun w' hS => exec_field _ 1 1 rfl g rfl rfl⟩) hHeld ?_
            try simp only [Act.put, List.setIfInBounds_toArray, List.set_cons_zero, List.set_cons_succ]
            refine wpAnyH_ready (rs := [9]) (by kernel_rfl) (by simp) (AllReadyH.cons rfl (fun K hK => ?_) AllReadyH.nil)
            rw [if_pos (by kernel_rfl)]
            refine wp_cap_putKeyD rfl _ _ rfl rfl HB.out KR HKR.out.symm HKL.out ?_
            intro ws hb5 hg5 hs5
            replace HB := hide hb5
            replace HZ := hide (HZ.out.grown hg5 (by intro h; injection h with h; omega))
            have HX := hide (hHeld.grown hg5 hHeld.size (by intro k hk; simp at hk; omega))
            clear hb5 hg5 hs5
            refine hK.out _ _ HX.out (fun hHeld => ?_)
            clear HX hK K
            try simp only [Act.put, List.setIfInBounds_toArray, List.set_cons_zero, List.set_cons_succ]
            refine wpAnyH_done (by kernel_rfl) ?_ _
            replace HW := hide hHeld
            clear hHeld
            go_wp2_with (first
                | (refine wpList_cap_putLit _ _ rfl rfl rfl HB.out (.slice none 0 0) rfl rfl [] ?_; intro w6 hb6 hg6 hs6; replace HB := hide (show CapB w6 g C1 (.slice none 0 0) from (by rw [← HC1L.out]; exact hb6)); replace HZ := hide (HZ.out.grown hg6 (by intro h; injection h with h; omega)); replace HW := hide (HW.out.grown hg6 HW.out.size (by intro k hk; simp at hk; omega)); clear hb6 hg6)
                | (refine wpList_cap_all _ rfl rfl rfl HB.out ?_)
                | (refine wpList_cap_putAll _ _ rfl rfl rfl HZ.out C1 (.slice none 0 0) rfl HB.out.keyL HB.out.fpL HB.out.one ?_; intro w7 hb7 hg7 hs7; replace HZ := hide hb7; replace HW := hide (HW.out.grown hg7 HW.out.size (by intro k hk; simp at hk; omega)); clear hb7 hg7))
            refine bodyPost_ret (results_cap_err rfl _ _ (g + 1) _ _ rfl HZ.out _ rfl) rfl ?_
            exact ⟨_, rfl, by rw [HC1N.out]; exact Bs.nil_ _ _, HW.out⟩
          case q8_5 =>
            rw [if_pos (by kernel_rfl)]
            try go_simp
            refine (HSH.out _ ((HT.out.below hHeld (Nat.le_refl _)).more hHeld.size)).mono ?_
            rintro e wc ⟨rfl, hb⟩
            have HX := hide (hHeld.trans (hb.mono hHeld.size))
            replace HB := hide (HB.out.below hb HB.out.lt)
            replace HZ := hide (HZ.out.below hb HZ.out.lt)
            clear hb
            refine hK.out _ _ HX.out (fun hHeld => ?_)
            clear HX hK K
            try simp only [Act.put, List.setIfInBounds_toArray, List.set_cons_zero, List.set_cons_succ]
            refine wpAnyH_ready (rs := [1]) (by kernel_rfl) (by simp) (AllReadyH.cons rfl (fun K hK => ?_) AllReadyH.nil)
            rw [if_pos (by kernel_rfl)]
            refine wp_cap_intD 21 rfl _ rfl 0 rfl HB.out _ rfl ?_
            refine hK.out _ _ hHeld (fun hHeld => ?_)
            clear hK K
            try simp only [Act.put, List.setIfInBounds_toArray, List.set_cons_zero, List.set_cons_succ]
            refine take_d 22 (i := 2) (v := .int .i64 (C2.kind + 1)) rfl (by kernel_rfl) (by kernel_rfl) (by kernel_rfl) (by kernel_rfl) (fun _ _ _ h => h) (Or.inl ⟨by kernel_rfl, fun w' hS => exec_i64_add _ _ _ rfl _ _ _ rfl rfl (IntWalk.i64_in _ (by omega))⟩) hHeld ?_
            try simp only [Act.put, List.setIfInBounds_toArray, List.set_cons_zero, List.set_cons_succ]
            refine take_d 26 (i := 6) (v := .pointer (some ⟨g, 0, none⟩)) rfl (by kernel_rfl) (by kernel_rfl) (by kernel_rfl) (by kernel_rfl) (fun _ _ _ h => h) (Or.inl ⟨by kernel_rfl, fun w' hS => exec_field _ 0 0 rfl g rfl rfl⟩) hHeld ?_
            try simp only [Act.put, List.setIfInBounds_toArray, List.set_cons_zero, List.set_cons_succ]
            refine wpAnyH_ready (rs := [7]) (by kernel_rfl) (by simp) (AllReadyH.cons rfl (fun K hK => ?_) AllReadyH.nil)
            rw [if_pos (by kernel_rfl)]
            refine wp_cap_putD rfl _ _ rfl 0 rfl HB.out (C2.kind + 1) rfl { C2 with kind := C2.kind + 1 } rfl ?_
            intro ws hb5 hg5 hs5
            replace HB := hide hb5
            replace HZ := hide (HZ.out.grown hg5 (by intro h; injection h with h; omega))
            have HX := hide (hHeld.grown hg5 hHeld.size (by intro k hk; simp at hk; omega))
            clear hb5 hg5 hs5
            refine hK.out _ _ HX.out (fun hHeld => ?_)
            clear HX hK K
            try simp only [Act.put, List.setIfInBounds_toArray, List.set_cons_zero, List.set_cons_succ]
            refine take_d 27 (i := 8) (v := .pointer (some ⟨g, 1, none⟩)) rfl (by kernel_rfl) (by kernel_rfl) (by kernel_rfl) (by kernel_rfl) (fun _ _ _ h => h) (Or.inl ⟨by kernel_rfl, fun w' hS => exec_field _ 1 1 rfl g rfl rfl⟩) hHeld ?_
            try simp only [Act.put, List.setIfInBounds_toArray, List.set_cons_zero, List.set_cons_succ]
            refine wpAnyH_ready (rs := [9]) (by kernel_rfl) (by simp) (AllReadyH.cons rfl (fun K hK => ?_) AllReadyH.nil)
            rw [if_pos (by kernel_rfl)]
            refine wp_cap_putKeyD rfl _ _ rfl rfl HB.out KR HKR.out.symm HKL.out ?_
            intro ws hb5 hg5 hs5
            replace HB := hide hb5
            replace HZ := hide (HZ.out.grown hg5 (by intro h; injection h with h; omega))
            have HX := hide (hHeld.grown hg5 hHeld.size (by intro k hk; simp at hk; omega))
            clear hb5 hg5 hs5
            refine hK.out _ _ HX.out (fun hHeld => ?_)
            clear HX hK K
            try simp only [Act.put, List.setIfInBounds_toArray, List.set_cons_zero, List.set_cons_succ]
            refine wpAnyH_done (by kernel_rfl) ?_ _
            replace HW := hide hHeld
            clear hHeld
            go_wp2_with (first
                | (refine wpList_cap_putLit _ _ rfl rfl rfl HB.out (.slice none 0 0) rfl rfl [] ?_; intro w6 hb6 hg6 hs6; replace HB := hide (show CapB w6 g C1 (.slice none 0 0) from (by rw [← HC1L.out]; exact hb6)); replace HZ := hide (HZ.out.grown hg6 (by intro h; injection h with h; omega)); replace HW := hide (HW.out.grown hg6 HW.out.size (by intro k hk; simp at hk; omega)); clear hb6 hg6)
                | (refine wpList_cap_all _ rfl rfl rfl HB.out ?_)
                | (refine wpList_cap_putAll _ _ rfl rfl rfl HZ.out C1 (.slice none 0 0) rfl HB.out.keyL HB.out.fpL HB.out.one ?_; intro w7 hb7 hg7 hs7; replace HZ := hide hb7; replace HW := hide (HW.out.grown hg7 HW.out.size (by intro k hk; simp at hk; omega)); clear hb7 hg7))
            refine bodyPost_ret (results_cap_err rfl _ _ (g + 1) _ _ rfl HZ.out _ rfl) rfl ?_
            exact ⟨_, rfl, by rw [HC1N.out]; exact Bs.nil_ _ _, HW.out⟩
      · have HRD := hide (fun w => by have := read_any c lit w hc; rw [Bool.not_eq_true _ |>.mp hr, HCV.out] at this; exact this)
        have HC1L := hide (show ({ c with lit := [] } : CapD) = C1 by
          rw [← HC1.out]
          unfold voF
          rw [if_pos hok, if_neg hr, ← hcl])
        rw [HC1.out, HE.out]
        clear hv hc hwf hl ht h3 hok hVd hcl hr
        rw [HCV.out]
        go_enter Tryd.func41, Tryd.ntmps41
        obtain ⟨g, hg⟩ : ∃ n, w.heap.size = n := ⟨_, rfl⟩
        go_wp2_with (first
            | go_skip
            | (refine wpList_cap_new _ rfl HCV.out.symm rfl H1.out H2.out H3.out ?_; intro w1 hb1 hw1 hs1; rw [hg] at hb1 ⊢; have HB := hide hb1; have HW := hide hw1; clear hb1 hw1)
            | (refine wpList_cap_zero rfl rfl ?_; rw [HNN.out]; intro w2 hb2 hw2 hs2; have hg2 : w1.heap.size = g + 1 := (by omega); rw [hg2] at hb2; try rw [hg2]; have HZ := hide hb2; replace HB := hide (HB.out.below hw2 HB.out.lt); replace HW := hide (HW.out.trans (hw2.mono HW.out.size)); clear hb2 hw2)
            | (refine wpList_cap_all _ rfl rfl rfl HB.out ?_; rw [HCV.out]))
        refine (HVA.out _).mono ?_
        rintro e w3 ⟨rfl, hb3⟩
        replace HB := hide (HB.out.below hb3 HB.out.lt)
        replace HZ := hide (HZ.out.below hb3 HZ.out.lt)
        replace HW := hide (HW.out.trans (hb3.mono HW.out.size))
        clear hb3
        go_wp2_with (first
            | go_skip
            | (refine wpList_cap_int _ rfl _ rfl rfl HB.out _ rfl ?_)
            | (refine wpList_cap_all _ rfl rfl rfl HB.out ?_; rw [HCV.out]))
        refine (HRD.out _).mono ?_
        rintro e w3 ⟨rfl, hb3⟩
        replace HB := hide (HB.out.below hb3 HB.out.lt)
        replace HZ := hide (HZ.out.below hb3 HZ.out.lt)
        replace HW := hide (HW.out.trans (hb3.mono HW.out.size))
        clear hb3
        go_wp2_with (first
            | (refine wpList_cap_putLit _ _ rfl rfl rfl HB.out (.slice none 0 0) rfl rfl [] ?_; intro w6 hb6 hg6 hs6; replace HB := hide (show CapB w6 g C1 (.slice none 0 0) from (by rw [← HC1L.out]; exact hb6)); replace HZ := hide (HZ.out.grown hg6 (by intro h; injection h with h; omega)); replace HW := hide (HW.out.grown hg6 HW.out.size (by intro k hk; simp at hk; omega)); clear hb6 hg6)
            | (refine wpList_cap_all _ rfl rfl rfl HB.out ?_)
            | (refine wpList_cap_putAll _ _ rfl rfl rfl HZ.out C1 (.slice none 0 0) rfl HB.out.keyL HB.out.fpL HB.out.one ?_; intro w7 hb7 hg7 hs7; replace HZ := hide hb7; replace HW := hide (HW.out.grown hg7 HW.out.size (by intro k hk; simp at hk; omega)); clear hb7 hg7))
        refine bodyPost_ret (results_cap_err rfl _ _ (g + 1) _ _ rfl HZ.out _ rfl) rfl ?_
        exact ⟨_, rfl, by rw [HC1N.out]; exact Bs.nil_ _ _, HW.out⟩
  · have HVA := hide (fun w => by have := Valid_any c lit w hc; rw [Bool.not_eq_true _ |>.mp hv, HCV.out] at this; exact this)
    have HF := hide (show voF c = NN ∧ voE c = 11 by rw [← HNN.out]; unfold voF voE; simp [Bool.not_eq_true _ |>.mp hv])
    rw [HF.out.1, HF.out.2]
    clear hv hc hwf hl ht
    rw [HCV.out]
    go_enter Tryd.func41, Tryd.ntmps41
    obtain ⟨g, hg⟩ : ∃ n, w.heap.size = n := ⟨_, rfl⟩
    go_wp2_with (first
        | go_skip
        | (refine wpList_cap_new _ rfl HCV.out.symm rfl H1.out H2.out H3.out ?_; intro w1 hb1 hw1 hs1; rw [hg] at hb1 ⊢; have HB := hide hb1; have HW := hide hw1; clear hb1 hw1)
        | (refine wpList_cap_zero rfl rfl ?_; rw [HNN.out]; intro w2 hb2 hw2 hs2; have hg2 : w1.heap.size = g + 1 := (by omega); rw [hg2] at hb2; try rw [hg2]; have HZ := hide hb2; replace HB := hide (HB.out.below hw2 HB.out.lt); replace HW := hide (HW.out.trans (hw2.mono HW.out.size)); clear hb2 hw2)
        | (refine wpList_cap_all _ rfl rfl rfl HB.out ?_; rw [HCV.out]))
    refine (HVA.out _).mono ?_
    rintro e w3 ⟨rfl, hb3⟩
    replace HB := hide (HB.out.below hb3 HB.out.lt)
    replace HZ := hide (HZ.out.below hb3 HZ.out.lt)
    replace HW := hide (HW.out.trans (hb3.mono HW.out.size))
    clear hb3
    go_wp2_with (first
        | go_skip
        | (refine wpList_cap_int _ rfl _ rfl rfl HB.out _ rfl ?_)
        | (refine wpList_none_cap rfl rfl ?_; rw [HNN.out])
        | (refine wpList_cap_putAll _ _ rfl rfl rfl HZ.out NN (.slice none 0 0) rfl HN1.out HN2.out rfl ?_; intro w6 hb6 hg6 hs6; replace HZ := hide hb6; replace HW := hide (HW.out.grown hg6 HW.out.size (by intro k hk; simp at hk; omega)); clear hb6 hg6))
    refine bodyPost_ret (results_cap_err rfl _ _ (g + 1) _ _ rfl HZ.out _ rfl) rfl ?_
    exact ⟨_, rfl, by rw [HNL.out]; exact Bs.nil_ _ _, HW.out⟩
end Go.Proofs.YtgjepahhbecljaaDoor

namespace Go.Proofs.YtgjepahhbecljaaDoor
open Go Go.RowKit
set_option linter.unusedVariables false
set_option linter.unusedSimpArgs false
set_option maxRecDepth 100000
set_option maxHeartbeats 8000000
theorem Index_any (c : CapD) (lit : Value) (w : World) (hwf : c.Wf) (hl : Bs w w.heap.size lit c.lit) (hn : c.lit.length ≤ 1000000) (ht : Tab w w.heap.size) :
    Calls Tryd.prog 43 #[capV c lit] w fun e w' => e = .returned (.tuple #[.agg (u8s (ixF c)).toArray, .int .i64 (voE c)]) ∧ Below w.heap.size w w' := by
  have hc := capV_of hwf.keyL hwf.fpL hl
  have H1 := hide hwf.keyL
  have H2 := hide hwf.fpL
  have H3 := hide hl.one
  have HL := hide hl
  have HLB := hide hwf.litB
  have HWF := hide hwf
  have HT := hide ht
  obtain ⟨NN, HNN⟩ : ∃ x, Hid (CapD.none_ = x) := ⟨_, hide rfl⟩
  have HN1 := hide (show NN.key.length = 16 by rw [← HNN.out]; rfl)
  have HN2 := hide (show NN.fp.length = 32 by rw [← HNN.out]; rfl)
  have HNL := hide (show NN.lit = [] by rw [← HNN.out]; rfl)
  obtain ⟨CV, HCV⟩ : ∃ x, Hid (capV c lit = x) := ⟨_, hide rfl⟩
  obtain ⟨C2, HC2⟩ : ∃ x, Hid (voF c = x) := ⟨_, hide rfl⟩
  obtain ⟨E2, HE2⟩ : ∃ x, Hid (voE c = x) := ⟨_, hide rfl⟩
  have hwf2 : C2.Wf := by rw [← HC2.out]; exact voF_wf hwf
  have HCK := hide hwf2.keyL
  have HCF := hide hwf2.fpL
  have HVO := hide (fun w' (hw' : Below w.heap.size w w') => by
    have := VerifyOnly_any c lit w' hwf ((hl.below hw' (Nat.le_refl _)).more hw'.size) hn ((ht.below hw' (Nat.le_refl _)).more hw'.size)
    rw [HCV.out, HC2.out, HE2.out] at this; exact this)
  have HIX := hide (show ixF c = C2.key by unfold ixF; rw [HC2.out])
  rw [HIX.out, HE2.out]
  clear hc hwf hl ht hwf2
  rw [HCV.out]
  go_enter Tryd.func43, Tryd.ntmps43
  obtain ⟨g, hg⟩ : ∃ n, w.heap.size = n := ⟨_, rfl⟩
  go_wp2_with (first
      | (refine wpList_cap_new _ rfl HCV.out.symm rfl H1.out H2.out H3.out ?_; intro w1 hb1 hw1 hs1; rw [hg] at hb1 ⊢; have HB := hide hb1; have HW := hide hw1; clear hb1 hw1)
      | (refine wpList_alloc_blk rfl 23 rfl _ zero_key ?_; intro w2 hb2 hw2 hs2; have hg2 : w1.heap.size = g + 1 := (by omega); rw [hg2] at hb2; try rw [hg2]; have HZ := hide hb2; replace HB := hide (HB.out.below hw2 HB.out.lt); replace HW := hide (HW.out.trans (hw2.mono HW.out.size)); clear hb2 hw2)
      | (refine wpList_cap_all _ rfl rfl rfl HB.out ?_; rw [HCV.out]))
  refine (HVO.out _ HW.out).mono ?_
  rintro e w5 ⟨l5, rfl, hl5, hb5⟩
  have L5 := hide hl5.one
  replace HZ := hide (HZ.out.below hb5 HZ.out.lt)
  replace HW := hide (HW.out.trans (hb5.mono HW.out.size))
  clear hb5 hl5 HB
  obtain ⟨g4, hg4⟩ : ∃ n, w5.heap.size = n := ⟨_, rfl⟩
  have hgz : g + 1 < g4 := by have := HZ.out.lt; omega
  go_wp2_with (first
      | (refine wpList_cap_zero rfl rfl ?_; rw [HNN.out]; intro w6 hb6 hw6 hs6; rw [hg4] at hb6; try rw [hg4]; have HB := hide hb6; replace HZ := hide (HZ.out.below hw6 HZ.out.lt); replace HW := hide (HW.out.trans (hw6.mono HW.out.size)); clear hb6 hw6)
      | (refine wpList_cap_putAll _ _ rfl rfl rfl HB.out C2 l5 rfl HCK.out HCF.out L5.out ?_; intro w6 hb6 hg6 hs6; replace HB := hide hb6; replace HZ := hide (HZ.out.grown hg6 (by intro h; injection h with h; omega)); replace HW := hide (HW.out.grown hg6 HW.out.size (by intro k hk; simp at hk; omega)); clear hb6 hg6)
      | (refine wpList_cap_key _ rfl rfl rfl HB.out ?_)
      | (refine wpList_store_blk rfl 23 _ _ rfl (g + 1) 0 (u8s C2.key) rfl rfl _ _ HZ.out (by rw [u8s_len, u8s_len, HCK.out]; simp) (by rw [u8s_len, HCK.out]; exact size_key) (u8s_one _) ?_; intro w7 hb7 hg7 hs7; rw [lset_all _ _ (by rw [u8s_len, u8s_len, HCK.out]; rfl)] at hb7; replace HZ := hide hb7; replace HW := hide (HW.out.grown hg7 HW.out.size (by intro k hk; simp at hk; omega)); clear hb7 hg7))
  refine bodyPost_ret (results_key_err rfl _ _ (g + 1) C2.key rfl HZ.out HCK.out _ rfl) rfl ?_
  exact ⟨rfl, HW.out⟩
end Go.Proofs.YtgjepahhbecljaaDoor

namespace Go.Proofs.YtgjepahhbecljaaDoor
open Go Go.RowKit
set_option linter.unusedVariables false
set_option linter.unusedSimpArgs false
set_option maxRecDepth 100000
set_option maxHeartbeats 8000000
theorem Own8.cells {w : World} {base : Nat} {v : Value} {xs : List Int} (h : Own8 w base v xs) : v.cells = #[v] := by
  obtain ⟨A, c, rfl⟩ := own_shape h
  rfl
theorem Enabler_any (c : CapD) (lit : Value) (n : Int) (w : World) (hwf : c.Wf) (hl : Bs w w.heap.size lit c.lit) (hn : c.lit.length ≤ 1000000) (ht : Tab w w.heap.size) (hnr : -9223372036854775808 ≤ n ∧ n ≤ 9223372036854775807) :
    Calls Tryd.prog 33 #[capV c lit, .int .i64 n] w fun e w' => e = .returned (.tuple #[.agg (u8s (enF c n)).toArray, .int .i64 (enE c)]) ∧ Below w.heap.size w w' := by
  have hc := capV_of hwf.keyL hwf.fpL hl
  have H1 := hide hwf.keyL
  have H2 := hide hwf.fpL
  have H3 := hide hl.one
  have HL := hide hl
  have HLB := hide hwf.litB
  have HWF := hide hwf
  have HT := hide ht
  obtain ⟨NN, HNN⟩ : ∃ x, Hid (CapD.none_ = x) := ⟨_, hide rfl⟩
  have HN1 := hide (show NN.key.length = 16 by rw [← HNN.out]; rfl)
  have HN2 := hide (show NN.fp.length = 32 by rw [← HNN.out]; rfl)
  have HNL := hide (show NN.lit = [] by rw [← HNN.out]; rfl)
  obtain ⟨CV, HCV⟩ : ∃ x, Hid (capV c lit = x) := ⟨_, hide rfl⟩
  by_cases hw : writeF c = true
  · have HWR := hide (fun w => by have := write_any c lit w hc; rw [hw, HCV.out] at this; exact this)
    obtain ⟨RES, HRES0⟩ : ∃ x, Hid (enF c n = x) := ⟨_, hide rfl⟩
    have HRES := hide (show shortF (strB tEnable) [c.key, putF n 2] = RES by rw [← HRES0.out]; unfold enF; rw [if_pos hw])
    have HRSL := hide (show RES.length = 16 by rw [← HRES.out]; exact shortF_len _ _)
    have HE := hide (show enE c = 0 by unfold enE; rw [if_pos hw])
    have HRB := hide (show ∀ x ∈ [c.key, putF n 2], Bytes x from fun x hx => by
      simp at hx
      rcases hx with rfl | rfl
      · exact hwf.keyB
      · exact putF_bytes _ _)
    have HRL := hide (show ∀ x ∈ [c.key, putF n 2], x.length ≤ 1000000 from fun x hx => by
      simp at hx
      rcases hx with rfl | rfl
      · rw [hwf.keyL]; omega
      · have := wid_le 2
        unfold putF
        rw [putN_len]
        omega)
    rw [HRES0.out, HE.out]
    clear hw hc hwf hl ht
    rw [HCV.out]
    go_enter Tryd.func33, Tryd.ntmps33
    obtain ⟨g, hg⟩ : ∃ n, w.heap.size = n := ⟨_, rfl⟩
    go_wp2_with (first
        | (refine wpList_cap_new _ rfl HCV.out.symm rfl H1.out H2.out H3.out ?_; intro w1 hb1 hw1 hs1; rw [hg] at hb1 ⊢; have HB := hide hb1; have HW := hide hw1; clear hb1 hw1)
        | (refine wpList_alloc_blk rfl 23 rfl _ zero_key ?_; intro w2 hb2 hw2 hs2; have hg2 : w1.heap.size = g + 1 := (by omega); rw [hg2] at hb2; try rw [hg2]; have HZ := hide hb2; replace HB := hide (HB.out.below hw2 HB.out.lt); replace HW := hide (HW.out.trans (hw2.mono HW.out.size)); clear hb2 hw2)
        | (refine wpList_cap_all _ rfl rfl rfl HB.out ?_; rw [HCV.out]))
    refine (HWR.out _).mono ?_
    rintro e w3 ⟨rfl, hb3⟩
    replace HB := hide (HB.out.below hb3 HB.out.lt)
    replace HZ := hide (HZ.out.below hb3 HZ.out.lt)
    replace HW := hide (HW.out.trans (hb3.mono HW.out.size))
    clear hb3
    go_upto_region 3 with fail
    refine wp_region_held_drew (S := fun w' => Below w.heap.size w w') (by kernel_rfl) HW.out.drew (fun hHeld => ?_)
    replace HB := hide (HB.out.below ((Below.refl _ _).drew) HB.out.lt)
    replace HZ := hide (HZ.out.below ((Below.refl _ _).drew) HZ.out.lt)
    refine take_d 10 (i := 0) (v := .pointer (some ⟨g, 1, none⟩)) rfl (by kernel_rfl) (by kernel_rfl) (by kernel_rfl) (by kernel_rfl) (fun _ _ _ h => h) (Or.inl ⟨by kernel_rfl, fun w' hS => exec_field _ 1 1 rfl g rfl rfl⟩) hHeld ?_
    try simp only [Act.put, List.setIfInBounds_toArray, List.set_cons_zero, List.set_cons_succ]
    refine take_d 11 (i := 1) (v := .slice (some ⟨g, 1, none⟩) 16 16) rfl (by kernel_rfl) (by kernel_rfl) (by kernel_rfl) (by kernel_rfl) (fun _ _ _ h => h) (Or.inl ⟨by kernel_rfl, fun w' hS => exec_slice_key _ rfl g 1 rfl⟩) hHeld ?_
    try simp only [Act.put, List.setIfInBounds_toArray, List.set_cons_zero, List.set_cons_succ]
    refine take_d 12 (i := 2) (v := .int .i64 n) rfl (by kernel_rfl) (by kernel_rfl) (by kernel_rfl) (by kernel_rfl) (fun _ _ _ h => h) (Or.inl ⟨by kernel_rfl, fun w' hS => exec_move _ rfl _ rfl⟩) hHeld ?_
    try simp only [Act.put, List.setIfInBounds_toArray, List.set_cons_zero, List.set_cons_succ]
    refine wpAnyH_ready (rs := [3]) (by kernel_rfl) (by simp) (AllReadyH.cons rfl (fun K hK => ?_) AllReadyH.nil)
    rw [if_pos (by kernel_rfl)]
    try go_simp
    refine (Put_any n 2 _ hnr (by omega)).mono ?_
    rintro e wc ⟨v13, rfl, ho, hb⟩
    have HC13 := hide ho.cells
    have HO := hide ho.reads
    have HX := hide (hHeld.trans (hb.mono hHeld.size))
    replace HB := hide (HB.out.below hb HB.out.lt)
    replace HZ := hide (HZ.out.below hb HZ.out.lt)
    clear hb ho
    refine hK.out _ _ HX.out (fun hHeld => ?_)
    clear HX hK K
    try simp only [Act.put, List.setIfInBounds_toArray, List.set_cons_zero, List.set_cons_succ]
    refine wpAnyH_ready (rs := [4]) (by kernel_rfl) (by simp) (AllReadyH.cons rfl (fun K hK => ?_) AllReadyH.nil)
    rw [if_pos (by kernel_rfl)]
    refine wp_rows2D 14 rfl _ _ rfl (.slice (some ⟨g, 1, none⟩) 16 16) v13 rfl rfl rfl HC13.out ?_
    intro wd hbd hwd
    obtain ⟨gd, hgd⟩ : ∃ n, wc.heap.size = n := ⟨_, rfl⟩
    rw [hgd] at hbd ⊢
    have HX := hide (hHeld.trans (hwd.mono hHeld.size))
    replace HB := hide (HB.out.below hwd HB.out.lt)
    have HRW := hide (rows_two hbd (HB.out.keyRow HB.out.blk.lt) ((HO.out.below hwd (Nat.le_refl _)).more hwd.size))
    replace HZ := hide (HZ.out.below hwd HZ.out.lt)
    clear hbd hwd
    refine hK.out _ _ HX.out (fun hHeld => ?_)
    clear HX hK K
    try simp only [Act.put, List.setIfInBounds_toArray, List.set_cons_zero, List.set_cons_succ]
    refine wpAnyH_ready (rs := [5]) (by kernel_rfl) (by simp) (AllReadyH.cons rfl (fun K hK => ?_) AllReadyH.nil)
    rw [if_pos (by kernel_rfl)]
    try go_simp
    refine (Short_any tEnable _ [c.key, putF n 2] _ HRW.out HRB.out HRL.out (by simp) (by decide) ((HT.out.below hHeld (Nat.le_refl _)).more hHeld.size)).mono ?_
    rintro e we ⟨rfl, hb⟩
    rw [HRES.out]
    have HX := hide (hHeld.trans (hb.mono hHeld.size))
    replace HZ := hide (HZ.out.below hb HZ.out.lt)
    clear hb
    refine hK.out _ _ HX.out (fun hHeld => ?_)
    clear HX hK K
    try simp only [Act.put, List.setIfInBounds_toArray, List.set_cons_zero, List.set_cons_succ]
    refine wpAnyH_ready (rs := [6]) (by kernel_rfl) (by simp) (AllReadyH.cons rfl (fun K hK => ?_) AllReadyH.nil)
    rw [if_pos (by kernel_rfl)]
    refine wp_store_blkD 23 _ _ rfl rfl (g + 1) 0 (u8s RES) rfl rfl _ _ HZ.out (by rw [u8s_len, u8s_len, HRSL.out]; simp) (by rw [u8s_len, HRSL.out]; exact size_key) (u8s_one _) ?_
    intro ws hb5 hg5 hs5
    rw [lset_all _ _ (by rw [u8s_len, u8s_len, HRSL.out]; rfl)] at hb5
    replace HZ := hide hb5
    have HX := hide (hHeld.grown hg5 hHeld.size (by intro k hk; simp at hk; omega))
    clear hb5 hg5 hs5
    refine hK.out _ _ HX.out (fun hHeld => ?_)
    clear HX hK K
    try simp only [Act.put, List.setIfInBounds_toArray, List.set_cons_zero, List.set_cons_succ]
    refine take_d 5 (i := 7) (v := .int .i64 0) rfl (by kernel_rfl) (by kernel_rfl) (by kernel_rfl) (by kernel_rfl) (fun _ _ _ h => h) (Or.inl ⟨by kernel_rfl, fun w' hS => exec_assign _ rfl _ rfl⟩) hHeld ?_
    try simp only [Act.put, List.setIfInBounds_toArray, List.set_cons_zero, List.set_cons_succ]
    refine wpAnyH_done (by kernel_rfl) ?_ _
    replace HW := hide hHeld
    clear hHeld
    go_wp2_with fail
    refine bodyPost_ret (results_key_err rfl _ _ (g + 1) RES rfl HZ.out HRSL.out _ rfl) rfl ?_
    exact ⟨rfl, HW.out⟩
  · have HWR := hide (fun w => by have := write_any c lit w hc; rw [Bool.not_eq_true _ |>.mp hw, HCV.out] at this; exact this)
    have HF := hide (show enF c n = zeros 16 ∧ enE c = 11 by unfold enF enE; rw [if_neg hw, if_neg hw]; exact ⟨rfl, rfl⟩)
    obtain ⟨Z16, HZ16⟩ : ∃ x, Hid (zeros 16 = x) := ⟨_, hide rfl⟩
    have HZL := hide (show Z16.length = 16 by rw [← HZ16.out]; rfl)
    rw [HF.out.1, HF.out.2, HZ16.out]
    clear hw hc hwf hl ht
    rw [HCV.out]
    go_enter Tryd.func33, Tryd.ntmps33
    obtain ⟨g, hg⟩ : ∃ n, w.heap.size = n := ⟨_, rfl⟩
    go_wp2_with (first
        | (refine wpList_cap_new _ rfl HCV.out.symm rfl H1.out H2.out H3.out ?_; intro w1 hb1 hw1 hs1; rw [hg] at hb1 ⊢; have HB := hide hb1; have HW := hide hw1; clear hb1 hw1)
        | (refine wpList_alloc_blk rfl 23 rfl _ zero_key ?_; intro w2 hb2 hw2 hs2; have hg2 : w1.heap.size = g + 1 := (by omega); rw [hg2] at hb2; try rw [hg2]; have HZ := hide hb2; replace HB := hide (HB.out.below hw2 HB.out.lt); replace HW := hide (HW.out.trans (hw2.mono HW.out.size)); clear hb2 hw2)
        | (refine wpList_cap_all _ rfl rfl rfl HB.out ?_; rw [HCV.out]))
    refine (HWR.out _).mono ?_
    rintro e w3 ⟨rfl, hb3⟩
    replace HB := hide (HB.out.below hb3 HB.out.lt)
    replace HZ := hide (HZ.out.below hb3 HZ.out.lt)
    replace HW := hide (HW.out.trans (hb3.mono HW.out.size))
    clear hb3
    go_wp2_with (first
        | (refine wpList_zero_key rfl rfl ?_; rw [HZ16.out])
        | (refine wpList_store_blk rfl 23 _ _ rfl (g + 1) 0 (u8s Z16) rfl rfl _ _ HZ.out (by rw [u8s_len, u8s_len, HZL.out]; simp) (by rw [u8s_len, HZL.out]; exact size_key) (u8s_one _) ?_; intro w7 hb7 hg7 hs7; rw [lset_all _ _ (by rw [u8s_len, u8s_len, HZL.out]; rfl)] at hb7; replace HZ := hide hb7; replace HW := hide (HW.out.grown hg7 HW.out.size (by intro k hk; simp at hk; omega)); clear hb7 hg7))
    refine bodyPost_ret (results_key_err rfl _ _ (g + 1) Z16 rfl HZ.out HZL.out _ rfl) rfl ?_
    exact ⟨rfl, HW.out⟩
theorem Renewal_any (a b : List Int) (n : Int) (w : World) (h1 : a.length = 16) (ha : Bytes a) (h2 : b.length = 16) (hb : Bytes b) (ht : Tab w w.heap.size) (hnr : -9223372036854775808 ≤ n ∧ n ≤ 9223372036854775807) :
    Calls Tryd.prog 37 #[.agg (u8s a).toArray, .agg (u8s b).toArray, .int .i64 n] w fun e w' => e = .returned (.agg (u8s (rnF a b n)).toArray) ∧ Below w.heap.size w w' := by
  have H1 := hide h1
  have H2 := hide h2
  have HT := hide ht
  obtain ⟨RES, HRES⟩ : ∃ x, Hid (shortF (strB tRenew) [a, b, putF n 2] = x) := ⟨_, hide rfl⟩
  have HRSL := hide (show RES.length = 16 by rw [← HRES.out]; exact shortF_len _ _)
  have HRF := hide (show rnF a b n = RES from HRES.out)
  have HRB := hide (show ∀ x ∈ [a, b, putF n 2], Bytes x from fun x hx => by
    simp at hx
    rcases hx with rfl | rfl | rfl
    · exact ha
    · exact hb
    · exact putF_bytes _ _)
  have HRL := hide (show ∀ x ∈ [a, b, putF n 2], x.length ≤ 1000000 from fun x hx => by
    simp at hx
    rcases hx with rfl | rfl | rfl
    · omega
    · omega
    · have := wid_le 2
      unfold putF
      rw [putN_len]
      omega)
  obtain ⟨AV, HAV⟩ : ∃ x, Hid (Value.agg (u8s a).toArray = x) := ⟨_, hide rfl⟩
  obtain ⟨BV, HBV⟩ : ∃ x, Hid (Value.agg (u8s b).toArray = x) := ⟨_, hide rfl⟩
  rw [HRF.out, HAV.out, HBV.out]
  clear h1 ha h2 hb ht
  go_enter Tryd.func37, Tryd.ntmps37
  obtain ⟨g, hg⟩ : ∃ n, w.heap.size = n := ⟨_, rfl⟩
  go_upto_region 1 with (first
    | (refine wpList_alloc_blk rfl 23 rfl _ zero_key ?_; intro w3 hb3 hw3 hs3; have hg3 : w2.heap.size = g + 1 + 1 := (by omega); rw [hg3] at hb3; try rw [hg3]; have HZ := hide hb3; replace HA := hide (HA.out.below hw3 HA.out.lt); replace HI := hide (HI.out.below hw3 HI.out.lt); replace HW := hide (HW.out.trans (hw3.mono HW.out.size)); clear hb3 hw3)
    | (refine wpList_box_key _ rfl b HBV.out.symm rfl ?_; intro w2 hb2 hw2 hs2; have hg2 : w1.heap.size = g + 1 := (by omega); rw [hg2] at hb2; try rw [hg2]; have HI := hide hb2; replace HA := hide (HA.out.below hw2 HA.out.lt); replace HW := hide (HW.out.trans (hw2.mono HW.out.size)); clear hb2 hw2)
    | (refine wpList_box_key _ rfl a HAV.out.symm rfl ?_; intro w1 hb1 hw1 hs1; rw [hg] at hb1 ⊢; have HA := hide hb1; have HW := hide hw1; clear hb1 hw1))
  refine wp_region_held_drew (S := fun w' => Below w.heap.size w w') (by kernel_rfl) HW.out.drew (fun hHeld => ?_)
  replace HA := hide (HA.out.drew)
  replace HI := hide (HI.out.drew)
  replace HZ := hide (HZ.out.drew)
  refine take_d 7 (i := 0) (v := .slice (some ⟨g, 0, none⟩) 16 16) rfl (by kernel_rfl) (by kernel_rfl) (by kernel_rfl) (by kernel_rfl) (fun _ _ _ h => h) (Or.inl ⟨by kernel_rfl, fun w' hS => exec_slice_key _ rfl g 0 rfl⟩) hHeld ?_
  try simp only [Act.put, List.setIfInBounds_toArray, List.set_cons_zero, List.set_cons_succ]
  refine take_d 8 (i := 1) (v := .slice (some ⟨g + 1, 0, none⟩) 16 16) rfl (by kernel_rfl) (by kernel_rfl) (by kernel_rfl) (by kernel_rfl) (fun _ _ _ h => h) (Or.inl ⟨by kernel_rfl, fun w' hS => exec_slice_key _ rfl (g + 1) 0 rfl⟩) hHeld ?_
  try simp only [Act.put, List.setIfInBounds_toArray, List.set_cons_zero, List.set_cons_succ]
  refine take_d 9 (i := 2) (v := .int .i64 n) rfl (by kernel_rfl) (by kernel_rfl) (by kernel_rfl) (by kernel_rfl) (fun _ _ _ h => h) (Or.inl ⟨by kernel_rfl, fun w' hS => exec_move _ rfl _ rfl⟩) hHeld ?_
  try simp only [Act.put, List.setIfInBounds_toArray, List.set_cons_zero, List.set_cons_succ]
  refine wpAnyH_ready (rs := [3]) (by kernel_rfl) (by simp) (AllReadyH.cons rfl (fun K hK => ?_) AllReadyH.nil)
  rw [if_pos (by kernel_rfl)]
  try go_simp
  refine (Put_any n 2 _ hnr (by omega)).mono ?_
  rintro e wc ⟨v13, rfl, ho, hb⟩
  have HC13 := hide ho.cells
  have HO := hide ho.reads
  have HX := hide (hHeld.trans (hb.mono hHeld.size))
  replace HA := hide (HA.out.below hb HA.out.lt)
  replace HI := hide (HI.out.below hb HI.out.lt)
  replace HZ := hide (HZ.out.below hb HZ.out.lt)
  clear hb ho
  refine hK.out _ _ HX.out (fun hHeld => ?_)
  clear HX hK K
  try simp only [Act.put, List.setIfInBounds_toArray, List.set_cons_zero, List.set_cons_succ]
  refine wpAnyH_ready (rs := [4]) (by kernel_rfl) (by simp) (AllReadyH.cons rfl (fun K hK => ?_) AllReadyH.nil)
  rw [if_pos (by kernel_rfl)]
  refine wp_rows3D 11 rfl _ _ _ rfl (.slice (some ⟨g, 0, none⟩) 16 16) (.slice (some ⟨g + 1, 0, none⟩) 16 16) v13 rfl rfl rfl rfl rfl HC13.out ?_
  intro wd hbd hwd
  obtain ⟨gd, hgd⟩ : ∃ n, wc.heap.size = n := ⟨_, rfl⟩
  rw [hgd] at hbd ⊢
  have HX := hide (hHeld.trans (hwd.mono hHeld.size))
  replace HA := hide (HA.out.below hwd HA.out.lt)
  replace HI := hide (HI.out.below hwd HI.out.lt)
  have HRW := hide (rows_three hbd (HA.out.reads H1.out (by omega)) (HI.out.reads H2.out (by omega)) ((HO.out.below hwd (Nat.le_refl _)).more hwd.size))
  replace HZ := hide (HZ.out.below hwd HZ.out.lt)
  clear hbd hwd
  refine hK.out _ _ HX.out (fun hHeld => ?_)
  clear HX hK K
  try simp only [Act.put, List.setIfInBounds_toArray, List.set_cons_zero, List.set_cons_succ]
  refine wpAnyH_ready (rs := [5]) (by kernel_rfl) (by simp) (AllReadyH.cons rfl (fun K hK => ?_) AllReadyH.nil)
  rw [if_pos (by kernel_rfl)]
  try go_simp
  refine (Short_any tRenew _ [a, b, putF n 2] _ HRW.out HRB.out HRL.out (by simp) (by decide) ((HT.out.below hHeld (Nat.le_refl _)).more hHeld.size)).mono ?_
  rintro e we ⟨rfl, hb⟩
  rw [HRES.out]
  have HX := hide (hHeld.trans (hb.mono hHeld.size))
  replace HZ := hide (HZ.out.below hb HZ.out.lt)
  clear hb
  refine hK.out _ _ HX.out (fun hHeld => ?_)
  clear HX hK K
  try simp only [Act.put, List.setIfInBounds_toArray, List.set_cons_zero, List.set_cons_succ]
  refine wpAnyH_ready (rs := [6]) (by kernel_rfl) (by simp) (AllReadyH.cons rfl (fun K hK => ?_) AllReadyH.nil)
  rw [if_pos (by kernel_rfl)]
  refine wp_store_blkD 23 _ _ rfl rfl (g + 1 + 1) 0 (u8s RES) rfl rfl _ _ HZ.out (by rw [u8s_len, u8s_len, HRSL.out]; simp) (by rw [u8s_len, HRSL.out]; exact size_key) (u8s_one _) ?_
  intro ws hb5 hg5 hs5
  rw [lset_all _ _ (by rw [u8s_len, u8s_len, HRSL.out]; rfl)] at hb5
  replace HZ := hide hb5
  have HX := hide (hHeld.grown hg5 hHeld.size (by intro k hk; simp at hk; omega))
  clear hb5 hg5 hs5
  refine hK.out _ _ HX.out (fun hHeld => ?_)
  clear HX hK K
  try simp only [Act.put, List.setIfInBounds_toArray, List.set_cons_zero, List.set_cons_succ]
  refine wpAnyH_done (by kernel_rfl) ?_ _
  replace HW := hide hHeld
  clear hHeld
  go_wp2_with fail
  refine bodyPost_ret (v := .agg (u8s RES).toArray) (results_cell_row rfl _ _ (g + 1 + 1) 23 _ (0, 0) _ rfl HZ.out Tryd.underlying23 rfl (by rw [List.size_toArray, u8s_len, HRSL.out]; exact size_key)) rfl ?_
  exact ⟨rfl, HW.out⟩
end Go.Proofs.YtgjepahhbecljaaDoor

namespace Go.Proofs.YtgjepahhbecljaaDoor
open Go Go.RowKit
set_option linter.unusedVariables false
set_option linter.unusedSimpArgs false
set_option maxRecDepth 100000
set_option maxHeartbeats 8000000
theorem list16 (l : List Int) (h : l.length = 16) : ∃ a0 a1 a2 a3 a4 a5 a6 a7 a8 a9 a10 a11 a12 a13 a14 a15 : Int, l = [a0, a1, a2, a3, a4, a5, a6, a7, a8, a9, a10, a11, a12, a13, a14, a15] := by
  match l, h with
  | [a0, a1, a2, a3, a4, a5, a6, a7, a8, a9, a10, a11, a12, a13, a14, a15], _ => exact ⟨a0, a1, a2, a3, a4, a5, a6, a7, a8, a9, a10, a11, a12, a13, a14, a15, rfl⟩
theorem built_slot48 (a0 a1 a2 a3 a4 a5 a6 a7 a8 a9 a10 a11 a12 a13 a14 a15 b0 b1 b2 b3 b4 b5 b6 b7 b8 b9 b10 b11 b12 b13 b14 b15 c0 c1 c2 c3 c4 c5 c6 c7 c8 c9 c10 c11 c12 c13 c14 c15 : Int) : Tryd.prog.built 28 [(0, .int .i64 4), (1, .agg (u8s [a0, a1, a2, a3, a4, a5, a6, a7, a8, a9, a10, a11, a12, a13, a14, a15]).toArray), (2, .agg (u8s [b0, b1, b2, b3, b4, b5, b6, b7, b8, b9, b10, b11, b12, b13, b14, b15, c0, c1, c2, c3, c4, c5, c6, c7, c8, c9, c10, c11, c12, c13, c14, c15]).toArray)] = some (capCells ⟨4, [a0, a1, a2, a3, a4, a5, a6, a7, a8, a9, a10, a11, a12, a13, a14, a15], [b0, b1, b2, b3, b4, b5, b6, b7, b8, b9, b10, b11, b12, b13, b14, b15, c0, c1, c2, c3, c4, c5, c6, c7, c8, c9, c10, c11, c12, c13, c14, c15], 0, 0, 0, []⟩ (.slice none 0 0)).toArray := by kernel_rfl
theorem built_slot (k f : List Int) (hk : k.length = 16) (hf : f.length = 32) : Tryd.prog.built 28 [(0, .int .i64 4), (1, .agg (u8s k).toArray), (2, .agg (u8s f).toArray)] = some (capCells ⟨4, k, f, 0, 0, 0, []⟩ (.slice none 0 0)).toArray := by
  obtain ⟨a0, a1, a2, a3, a4, a5, a6, a7, a8, a9, a10, a11, a12, a13, a14, a15, rfl⟩ := list16 k hk
  have e : f = f.take 16 ++ f.drop 16 := (List.take_append_drop 16 f).symm
  obtain ⟨b0, b1, b2, b3, b4, b5, b6, b7, b8, b9, b10, b11, b12, b13, b14, b15, e1⟩ := list16 (f.take 16) (by rw [List.length_take, hf]; rfl)
  obtain ⟨c0, c1, c2, c3, c4, c5, c6, c7, c8, c9, c10, c11, c12, c13, c14, c15, e2⟩ := list16 (f.drop 16) (by rw [List.length_drop, hf])
  rw [e1, e2] at e
  subst e
  exact built_slot48 a0 a1 a2 a3 a4 a5 a6 a7 a8 a9 a10 a11 a12 a13 a14 a15 b0 b1 b2 b3 b4 b5 b6 b7 b8 b9 b10 b11 b12 b13 b14 b15 c0 c1 c2 c3 c4 c5 c6 c7 c8 c9 c10 c11 c12 c13 c14 c15
theorem exec_build_slot {o : Oper} {a : Act} {w : World} (x y : Operand) (ho : o.op = .build 28 #[(0, .const (.int .i64 4)), (1, x), (2, y)]) (k f : List Int) (hx : a.eval x = .agg (u8s k).toArray) (hy : a.eval y = .agg (u8s f).toArray) (hk : k.length = 16) (hf : f.length = 32) :
    (execOp a.eval o).run Tryd.prog w = .ok (.value (capV ⟨4, k, f, 0, 0, 0, []⟩ (.slice none 0 0))) w := by
  have hm : ((#[(0, .const (.int .i64 4)), (1, x), (2, y)] : Array (Nat × Operand)).map fun (i, x) => (i, a.eval x)).toList = [(0, .int .i64 4), (1, .agg (u8s k).toArray), (2, .agg (u8s f).toArray)] := by
    have hc : a.eval (.const (.int .i64 4)) = .int .i64 4 := rfl
    simp [hx, hy, hc]
  have hr := run_build (P := Tryd.prog) w 28 ((#[(0, .const (.int .i64 4)), (1, x), (2, y)] : Array (Nat × Operand)).map fun (i, x) => (i, a.eval x)) _ (by rw [hm]; exact built_slot k f hk hf)
  unfold execOp
  simp only [ho, Sem.run_bind, hr, Result.andThen_ok, Sem.run_pure]
  rfl
theorem Slot_any (seed fp : List Int) (w : World) (h1 : seed.length = 16) (hb : Bytes seed) (h2 : fp.length = 32) (ht : Tab w w.heap.size) :
    Calls Tryd.prog 35 #[.agg (u8s seed).toArray, .agg (u8s fp).toArray] w fun e w' => e = .returned (capV (slotF seed fp) (.slice none 0 0)) ∧ Below w.heap.size w w' := by
  have H1 := hide h1
  have H2 := hide h2
  have HT := hide ht
  obtain ⟨KR, HKR0⟩ : ∃ x, Hid (keyF tWrite seed = x) := ⟨_, hide rfl⟩
  have HKL := hide (show KR.length = 16 by rw [← HKR0.out]; exact keyF_len _ _)
  obtain ⟨KRV, HKR⟩ : ∃ x, Hid (Value.agg (u8s KR).toArray = x) := ⟨_, hide rfl⟩
  obtain ⟨KV, HKV⟩ : ∃ x, Hid (Value.agg (u8s seed).toArray = x) := ⟨_, hide rfl⟩
  obtain ⟨FV, HFV⟩ : ∃ x, Hid (Value.agg (u8s fp).toArray = x) := ⟨_, hide rfl⟩
  have HSH := hide (fun w' (ht : Tab w' w'.heap.size) => by have := short_any tWrite seed w' h1 hb (by decide) ht; rw [HKV.out, HKR0.out, HKR.out] at this; exact this)
  have HSF := hide (show slotF seed fp = ⟨4, KR, fp, 0, 0, 0, []⟩ by unfold slotF; rw [HKR0.out])
  rw [HSF.out, HKV.out, HFV.out]
  clear h1 hb h2 ht
  go_enter Tryd.func35, Tryd.ntmps35
  obtain ⟨g, hg⟩ : ∃ n, w.heap.size = n := ⟨_, rfl⟩
  go_upto_region 1 with (first
    | (refine wpList_box_key _ rfl seed HKV.out.symm rfl ?_; intro w1 hb1 hw1 hs1; rw [hg] at hb1 ⊢; have HA := hide hb1; have HW := hide hw1; clear hb1 hw1)
    | (refine wpList_box_hash _ rfl fp HFV.out.symm rfl ?_; intro w2 hb2 hw2 hs2; have hg2 : w1.heap.size = g + 1 := (by omega); rw [hg2] at hb2; try rw [hg2]; have HF := hide hb2; replace HA := hide (HA.out.below hw2 HA.out.lt); replace HW := hide (HW.out.trans (hw2.mono HW.out.size)); clear hb2 hw2)
    | (refine wpList_cap_zero rfl rfl ?_; intro w3 hb3 hw3 hs3; have hg3 : w2.heap.size = g + 1 + 1 := (by omega); rw [hg3] at hb3; try rw [hg3]; have HZ := hide hb3; replace HA := hide (HA.out.below hw3 HA.out.lt); replace HF := hide (HF.out.below hw3 HF.out.lt); replace HW := hide (HW.out.trans (hw3.mono HW.out.size)); clear hb3 hw3))
  refine wp_region_held_drew (S := fun w' => Below w.heap.size w w' ∧ Blk w' g 23 (u8s seed) ∧ Blk w' (g + 1) 25 (u8s fp)) (by kernel_rfl) ⟨HW.out.drew, HA.out.drew, HF.out.drew⟩ (fun hHeld => ?_)
  replace HZ := hide (HZ.out.below ((Below.refl _ _).drew) HZ.out.lt)
  refine take_d 5 (i := 0) (v := KV) rfl (by kernel_rfl) (by kernel_rfl) (by kernel_rfl) (by kernel_rfl) (fun _ _ _ h => h) (Or.inl ⟨by kernel_rfl, fun w' hS => exec_load_arr _ _ rfl g 0 rfl _ (u8s seed) (blk_range hS.2.1 0 _ (fun j u hu => by rw [Nat.zero_add]; exact hu)) Tryd.underlying23 rfl (by rw [u8s_len, H1.out]; exact size_key) |>.trans (by rw [HKV.out])⟩) hHeld ?_
  try simp only [Act.put, List.setIfInBounds_toArray, List.set_cons_zero, List.set_cons_succ]
  refine take_d 7 (i := 2) (v := FV) rfl (by kernel_rfl) (by kernel_rfl) (by kernel_rfl) (by kernel_rfl) (fun _ _ _ h => h) (Or.inl ⟨by kernel_rfl, fun w' hS => exec_load_arr _ _ rfl (g + 1) 0 rfl _ (u8s fp) (blk_range hS.2.2 0 _ (fun j u hu => by rw [Nat.zero_add]; exact hu)) Tryd.underlying25 rfl (by rw [u8s_len, H2.out]; exact size_hash) |>.trans (by rw [HFV.out])⟩) hHeld ?_
  try simp only [Act.put, List.setIfInBounds_toArray, List.set_cons_zero, List.set_cons_succ]
  refine wpAnyH_ready (rs := [1]) (by kernel_rfl) (by simp) (AllReadyH.cons rfl (fun K hK => ?_) AllReadyH.nil)
  rw [if_pos (by kernel_rfl)]
  try go_simp
  refine (HSH.out _ ((HT.out.below hHeld.1 (Nat.le_refl _)).more hHeld.1.size)).mono ?_
  rintro e wc ⟨rfl, hb⟩
  have hsz := hHeld.1.size
  have HX := hide (show Below w.heap.size w wc ∧ Blk wc g 23 (u8s seed) ∧ Blk wc (g + 1) 25 (u8s fp) from ⟨hHeld.1.trans (hb.mono hsz), hHeld.2.1.below hb hHeld.2.1.lt, hHeld.2.2.below hb hHeld.2.2.lt⟩)
  replace HZ := hide (HZ.out.below hb HZ.out.lt)
  clear hb
  refine hK.out _ _ HX.out (fun hHeld => ?_)
  clear HX hK K
  try simp only [Act.put, List.setIfInBounds_toArray, List.set_cons_zero, List.set_cons_succ]
  refine take_d 8 (i := 3) (v := (capV ⟨4, KR, fp, 0, 0, 0, []⟩ (.slice none 0 0))) rfl (by kernel_rfl) (by kernel_rfl) (by kernel_rfl) (by kernel_rfl) (fun _ _ _ h => h) (Or.inl ⟨by kernel_rfl, fun w' hS => exec_build_slot _ _ rfl KR fp (by exact HKR.out.symm) (by exact HFV.out.symm) HKL.out H2.out⟩) hHeld ?_
  try simp only [Act.put, List.setIfInBounds_toArray, List.set_cons_zero, List.set_cons_succ]
  refine wpAnyH_ready (rs := [4]) (by kernel_rfl) (by simp) (AllReadyH.cons rfl (fun K hK => ?_) AllReadyH.nil)
  rw [if_pos (by kernel_rfl)]
  refine wp_cap_putAllD rfl _ _ rfl rfl HZ.out ⟨4, KR, fp, 0, 0, 0, []⟩ (.slice none 0 0) rfl HKL.out H2.out rfl ?_
  intro ws hb5 hg5 hs5
  replace HZ := hide hb5
  have HX := hide (show Below w.heap.size w ws ∧ Blk ws g 23 (u8s seed) ∧ Blk ws (g + 1) 25 (u8s fp) from ⟨hHeld.1.grown hg5 hHeld.1.size (by intro k hk; simp at hk; omega), hHeld.2.1.grown hg5 (by intro h; injection h with h; omega), hHeld.2.2.grown hg5 (by intro h; injection h with h; omega)⟩)
  clear hb5 hg5 hs5
  refine hK.out _ _ HX.out (fun hHeld => ?_)
  clear HX hK K
  try simp only [Act.put, List.setIfInBounds_toArray, List.set_cons_zero, List.set_cons_succ]
  refine wpAnyH_done (by kernel_rfl) ?_ _
  replace HW := hide hHeld.1
  clear hHeld
  go_wp2_with fail
  refine bodyPost_ret (v := capV ⟨4, KR, fp, 0, 0, 0, []⟩ (.slice none 0 0)) (results_cell_row rfl _ _ (g + 1 + 1) 28 (capCells ⟨4, KR, fp, 0, 0, 0, []⟩ (.slice none 0 0)).toArray (0, 0) _ rfl HZ.out.blk Tryd.underlying28 rfl (by rw [List.size_toArray, cc_len _ HZ.out.keyL HZ.out.fpL]; exact size_cap)) rfl ?_
  exact ⟨rfl, HW.out⟩
end Go.Proofs.YtgjepahhbecljaaDoor

namespace Go.Proofs.YtgjepahhbecljaaDoor
open Go Go.RowKit
set_option linter.unusedVariables false
set_option linter.unusedSimpArgs false
set_option maxRecDepth 100000
set_option maxHeartbeats 8000000
theorem Dir_any (c : CapD) (lit : Value) (w : World) (hwf : c.Wf) (hl : Bs w w.heap.size lit c.lit) (hn : c.lit.length ≤ 1000000) :
    Calls Tryd.prog 31 #[capV c lit] w fun e w' => ∃ l', e = .returned (.tuple #[capV (dirF c) l', .int .i64 (dirE c)]) ∧ Bs w' w'.heap.size l' (dirF c).lit ∧ Below w.heap.size w w' := by
  have hc := capV_of hwf.keyL hwf.fpL hl
  have H1 := hide hwf.keyL
  have H2 := hide hwf.fpL
  have H3 := hide hl.one
  have HL := hide hl
  have HLB := hide hwf.litB
  have HWF := hide hwf
  obtain ⟨NN, HNN⟩ : ∃ x, Hid (CapD.none_ = x) := ⟨_, hide rfl⟩
  have HN1 := hide (show NN.key.length = 16 by rw [← HNN.out]; rfl)
  have HN2 := hide (show NN.fp.length = 32 by rw [← HNN.out]; rfl)
  have HNL := hide (show NN.lit = [] by rw [← HNN.out]; rfl)
  obtain ⟨CV, HCV⟩ : ∃ x, Hid (capV c lit = x) := ⟨_, hide rfl⟩
  by_cases hv : decide c.Valid = true
  · have HVA := hide (fun w => by have := Valid_any c lit w hc; rw [hv, HCV.out] at this; exact this)
    by_cases h4 : c.kind < 4
    · have h4' : ¬ 4 ≤ c.kind := by omega
      have d4 : decide (c.kind < 4) = true := by simp [h4]
      have HF := hide (show dirF c = NN ∧ dirE c = 11 by rw [← HNN.out]; unfold dirF dirE dirOk; simp [h4'])
      rw [HF.out.1, HF.out.2]
      clear hv hc hwf hl
      rw [HCV.out]
      go_enter Tryd.func31, Tryd.ntmps31
      obtain ⟨g, hg⟩ : ∃ n, w.heap.size = n := ⟨_, rfl⟩
      go_wp2_with (first
          | go_skip
          | (refine wpList_cap_new _ rfl HCV.out.symm rfl H1.out H2.out H3.out ?_; intro w1 hb1 hw1 hs1; rw [hg] at hb1 ⊢; have HB := hide hb1; have HW := hide hw1; clear hb1 hw1)
          | (refine wpList_cap_zero rfl rfl ?_; rw [HNN.out]; intro w2 hb2 hw2 hs2; have hg2 : w1.heap.size = g + 1 := (by omega); rw [hg2] at hb2; try rw [hg2]; have HZ := hide hb2; replace HB := hide (HB.out.below hw2 HB.out.lt); replace HW := hide (HW.out.trans (hw2.mono HW.out.size)); clear hb2 hw2)
          | (refine wpList_cap_all _ rfl rfl rfl HB.out ?_; rw [HCV.out]))
      refine (HVA.out _).mono ?_
      rintro e w3 ⟨rfl, hb3⟩
      replace HB := hide (HB.out.below hb3 HB.out.lt)
      replace HZ := hide (HZ.out.below hb3 HZ.out.lt)
      replace HW := hide (HW.out.trans (hb3.mono HW.out.size))
      clear hb3
      go_wp2_with (first
          | go_skip
          | (refine wpList_cap_int _ rfl _ rfl rfl HB.out _ rfl ?_)
          | (refine wpList_none_cap rfl rfl ?_; rw [HNN.out])
          | (refine wpList_cap_putAll _ _ rfl rfl rfl HZ.out NN (.slice none 0 0) rfl HN1.out HN2.out rfl ?_; intro w6 hb6 hg6 hs6; replace HZ := hide hb6; replace HW := hide (HW.out.grown hg6 HW.out.size (by intro k hk; simp at hk; omega)); clear hb6 hg6))
      refine bodyPost_ret (results_cap_err rfl _ _ (g + 1) _ _ rfl HZ.out _ rfl) rfl ?_
      exact ⟨_, rfl, by rw [HNL.out]; exact Bs.nil_ _ _, HW.out⟩
    · have d4 : decide (c.kind < 4) = false := by simp; omega
      by_cases h6 : 6 < c.kind
      · have h6' : ¬ c.kind ≤ 6 := by omega
        have d6 : decide (6 < c.kind) = true := by simp [h6]
        have HF := hide (show dirF c = NN ∧ dirE c = 11 by rw [← HNN.out]; unfold dirF dirE dirOk; simp [h6'])
        rw [HF.out.1, HF.out.2]
        clear hv hc hwf hl
        rw [HCV.out]
        go_enter Tryd.func31, Tryd.ntmps31
        obtain ⟨g, hg⟩ : ∃ n, w.heap.size = n := ⟨_, rfl⟩
        go_wp2_with (first
            | go_skip
            | (refine wpList_cap_new _ rfl HCV.out.symm rfl H1.out H2.out H3.out ?_; intro w1 hb1 hw1 hs1; rw [hg] at hb1 ⊢; have HB := hide hb1; have HW := hide hw1; clear hb1 hw1)
            | (refine wpList_cap_zero rfl rfl ?_; rw [HNN.out]; intro w2 hb2 hw2 hs2; have hg2 : w1.heap.size = g + 1 := (by omega); rw [hg2] at hb2; try rw [hg2]; have HZ := hide hb2; replace HB := hide (HB.out.below hw2 HB.out.lt); replace HW := hide (HW.out.trans (hw2.mono HW.out.size)); clear hb2 hw2)
            | (refine wpList_cap_all _ rfl rfl rfl HB.out ?_; rw [HCV.out]))
        refine (HVA.out _).mono ?_
        rintro e w3 ⟨rfl, hb3⟩
        replace HB := hide (HB.out.below hb3 HB.out.lt)
        replace HZ := hide (HZ.out.below hb3 HZ.out.lt)
        replace HW := hide (HW.out.trans (hb3.mono HW.out.size))
        clear hb3
        go_wp2_with (first
            | go_skip
            | (refine wpList_cap_int _ rfl _ rfl rfl HB.out _ rfl ?_)
            | (refine wpList_none_cap rfl rfl ?_; rw [HNN.out])
            | (refine wpList_cap_putAll _ _ rfl rfl rfl HZ.out NN (.slice none 0 0) rfl HN1.out HN2.out rfl ?_; intro w6 hb6 hg6 hs6; replace HZ := hide hb6; replace HW := hide (HW.out.grown hg6 HW.out.size (by intro k hk; simp at hk; omega)); clear hb6 hg6))
        refine bodyPost_ret (results_cap_err rfl _ _ (g + 1) _ _ rfl HZ.out _ rfl) rfl ?_
        exact ⟨_, rfl, by rw [HNL.out]; exact Bs.nil_ _ _, HW.out⟩
      · have h4' : 4 ≤ c.kind := by omega
        have h6' : c.kind ≤ 6 := by omega
        have d6 : decide (6 < c.kind) = false := by simp; omega
        have hok : dirOk c = true := by unfold dirOk; rw [hv]; simp [h4', h6']
        have hcl : c.lit = [] := valid_lit (of_decide_eq_true hv) (by omega)
        have HE := hide (show dirE c = 0 by unfold dirE; rw [if_pos hok])
        obtain ⟨C1, HC1⟩ : ∃ x, Hid (dirF c = x) := ⟨_, hide rfl⟩
        have HC1E := hide (show ({ c with kind := c.kind + 3 } : CapD) = C1 by rw [← HC1.out]; unfold dirF; rw [if_pos hok])
        have HC1L := hide (show ({ c with kind := c.kind + 3, lit := [] } : CapD) = C1 by rw [← HC1E.out, ← hcl])
        have HC1N := hide (show C1.lit = [] by rw [← HC1E.out]; exact hcl)
        rw [HC1.out, HE.out]
        clear hv hc hwf hl hok hcl
        rw [HCV.out]
        go_enter Tryd.func31, Tryd.ntmps31
        obtain ⟨g, hg⟩ : ∃ n, w.heap.size = n := ⟨_, rfl⟩
        go_wp2_with (first
            | go_skip
            | (refine wpList_cap_new _ rfl HCV.out.symm rfl H1.out H2.out H3.out ?_; intro w1 hb1 hw1 hs1; rw [hg] at hb1 ⊢; have HB := hide hb1; have HW := hide hw1; clear hb1 hw1)
            | (refine wpList_cap_zero rfl rfl ?_; rw [HNN.out]; intro w2 hb2 hw2 hs2; have hg2 : w1.heap.size = g + 1 := (by omega); rw [hg2] at hb2; try rw [hg2]; have HZ := hide hb2; replace HB := hide (HB.out.below hw2 HB.out.lt); replace HW := hide (HW.out.trans (hw2.mono HW.out.size)); clear hb2 hw2)
            | (refine wpList_cap_all _ rfl rfl rfl HB.out ?_; rw [HCV.out]))
        refine (HVA.out _).mono ?_
        rintro e w3 ⟨rfl, hb3⟩
        replace HB := hide (HB.out.below hb3 HB.out.lt)
        replace HZ := hide (HZ.out.below hb3 HZ.out.lt)
        replace HW := hide (HW.out.trans (hb3.mono HW.out.size))
        clear hb3
        go_wp2_with (first
            | go_skip
            | (refine wpList_cap_int _ rfl _ rfl rfl HB.out _ rfl ?_)
            | (refine wpList_cap_put _ _ rfl 0 rfl rfl HB.out (c.kind + 3) rfl { c with kind := c.kind + 3 } rfl ?_; intro w6 hb6 hg6 hs6; replace HB := hide hb6; replace HZ := hide (HZ.out.grown hg6 (by intro h; injection h with h; omega)); replace HW := hide (HW.out.grown hg6 HW.out.size (by intro k hk; simp at hk; omega)); clear hb6 hg6)
            | (refine wpList_cap_putLit _ _ rfl rfl rfl HB.out (.slice none 0 0) rfl rfl [] ?_; intro w6 hb6 hg6 hs6; replace HB := hide (show CapB w6 g C1 (.slice none 0 0) from (by rw [← HC1L.out]; exact hb6)); replace HZ := hide (HZ.out.grown hg6 (by intro h; injection h with h; omega)); replace HW := hide (HW.out.grown hg6 HW.out.size (by intro k hk; simp at hk; omega)); clear hb6 hg6)
            | (refine wpList_cap_all _ rfl rfl rfl HB.out ?_)
            | (refine wpList_cap_putAll _ _ rfl rfl rfl HZ.out C1 (.slice none 0 0) rfl HB.out.keyL HB.out.fpL HB.out.one ?_; intro w7 hb7 hg7 hs7; replace HZ := hide hb7; replace HW := hide (HW.out.grown hg7 HW.out.size (by intro k hk; simp at hk; omega)); clear hb7 hg7))
        refine bodyPost_ret (results_cap_err rfl _ _ (g + 1) _ _ rfl HZ.out _ rfl) rfl ?_
        exact ⟨_, rfl, by rw [HC1N.out]; exact Bs.nil_ _ _, HW.out⟩
  · have HVA := hide (fun w => by have := Valid_any c lit w hc; rw [Bool.not_eq_true _ |>.mp hv, HCV.out] at this; exact this)
    have HF := hide (show dirF c = NN ∧ dirE c = 11 by rw [← HNN.out]; unfold dirF dirE dirOk; simp [Bool.not_eq_true _ |>.mp hv])
    rw [HF.out.1, HF.out.2]
    clear hv hc hwf hl
    rw [HCV.out]
    go_enter Tryd.func31, Tryd.ntmps31
    obtain ⟨g, hg⟩ : ∃ n, w.heap.size = n := ⟨_, rfl⟩
    go_wp2_with (first
        | go_skip
        | (refine wpList_cap_new _ rfl HCV.out.symm rfl H1.out H2.out H3.out ?_; intro w1 hb1 hw1 hs1; rw [hg] at hb1 ⊢; have HB := hide hb1; have HW := hide hw1; clear hb1 hw1)
        | (refine wpList_cap_zero rfl rfl ?_; rw [HNN.out]; intro w2 hb2 hw2 hs2; have hg2 : w1.heap.size = g + 1 := (by omega); rw [hg2] at hb2; try rw [hg2]; have HZ := hide hb2; replace HB := hide (HB.out.below hw2 HB.out.lt); replace HW := hide (HW.out.trans (hw2.mono HW.out.size)); clear hb2 hw2)
        | (refine wpList_cap_all _ rfl rfl rfl HB.out ?_; rw [HCV.out]))
    refine (HVA.out _).mono ?_
    rintro e w3 ⟨rfl, hb3⟩
    replace HB := hide (HB.out.below hb3 HB.out.lt)
    replace HZ := hide (HZ.out.below hb3 HZ.out.lt)
    replace HW := hide (HW.out.trans (hb3.mono HW.out.size))
    clear hb3
    go_wp2_with (first
        | go_skip
        | (refine wpList_cap_int _ rfl _ rfl rfl HB.out _ rfl ?_)
        | (refine wpList_none_cap rfl rfl ?_; rw [HNN.out])
        | (refine wpList_cap_putAll _ _ rfl rfl rfl HZ.out NN (.slice none 0 0) rfl HN1.out HN2.out rfl ?_; intro w6 hb6 hg6 hs6; replace HZ := hide hb6; replace HW := hide (HW.out.grown hg6 HW.out.size (by intro k hk; simp at hk; omega)); clear hb6 hg6))
    refine bodyPost_ret (results_cap_err rfl _ _ (g + 1) _ _ rfl HZ.out _ rfl) rfl ?_
    exact ⟨_, rfl, by rw [HNL.out]; exact Bs.nil_ _ _, HW.out⟩
end Go.Proofs.YtgjepahhbecljaaDoor
