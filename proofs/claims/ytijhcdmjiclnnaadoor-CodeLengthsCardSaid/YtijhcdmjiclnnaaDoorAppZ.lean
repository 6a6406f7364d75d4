/- 'append(b, make([]byte, n)...)' at a row of bytes of the call's own. -/
import Derived.Test.YtijhcdmjiclnnaaDoorRowB
import Derived.Lib.AppendZerosOnto
namespace Go.Proofs.YtijhcdmjiclnnaaDoor
open Go Go.RowKit
set_option linter.unusedVariables false

theorem run_append_room_zeros {P : Program} (w : World) (t tn ty e : TypeId) (i : TypeInfo) (z : Value) (kq kn : IntKind) (ht : P.underlying t = some (.slice e)) (htn : P.underlying tn = some (.int kn)) (hi : P.info? e = some i) (hz : i.zero = some z)
    (b off sLen sCap k : Nat) (news : List Value) (hnews : (Builtin.zeroCells z.cells k) = news.toArray) (hs : 0 < i.size) (hlen : news.length = k * i.size) (h1 : ∀ u ∈ news, u.oneCell' = true) (h48 : k * i.bytes ≤ 281474976710656) (h63 : (k : Int) ≤ 9223372036854775807)
    (hroom : sLen + k ≤ sCap) (hc : ∀ j, j < news.length → (w.cell? ⟨b, off + sLen * i.size + j, none⟩).isSome = true) (hf : ∀ j, j < news.length → w.frozen? ⟨b, off + sLen * i.size + j, none⟩ = false) :
    (Builtin.append_ #[t, tn] ty #[.slice (some ⟨b, off, none⟩) sLen sCap, .int kq k]).run P w = .ok (.slice (some ⟨b, off, none⟩) (sLen + k) sCap) (w.setCells b (off + sLen * i.size) news) := by
  have hst := run_storeCells_cells (P := P) b (off + sLen * i.size) news 0 w (by simpa using hc) (by simpa using hf) h1
  simp only [Nat.add_zero] at hst
  have hw : IntKind.i64.wrap (k : Int) = k := by rw [IntKind.wrap_i64]; omega
  have h48i : ¬ (281474976710656 < (k : Int) * (i.bytes : Int)) := by
    rw [← Int.natCast_mul]
    omega
  have hneg : ¬ ((k : Int) < 0) := by omega
  by_cases hk : k = 0
  · subst hk
    have hn0 : news = [] := List.eq_nil_of_length_eq_zero (by omega)
    subst hn0
    simp [Builtin.append_, run_underlying ht, run_underlying htn, sizeOf, typeInfo, zeroValue, hi, hz, asInt, asIntOf, hw, Addr.add_lit, hst, hroom]
    simp at hroom
    have h0 : IntKind.i64.wrap 0 = 0 := by simpa using hw
    simp [h0, hroom, storeCells]
    try rfl
  · have hns : ¬ (k * i.size = 0) := Nat.mul_ne_zero hk (by omega)
    simp [Builtin.append_, run_underlying ht, run_underlying htn, sizeOf, typeInfo, zeroValue, hi, hz, asInt, asIntOf, hw, hneg, hns, hk, h48i, hroom, hnews, Addr.add_lit, hst]

theorem run_append_Z (w : World) (base : Nat) (ty : TypeId) (kq : IntKind) (v : Value) (xs : List Int) (hown : RowB w base v xs) (hp : 0 < xs.length) (k : Nat)
    (hbytes : xs.length + k ≤ 140737488355328) (hbase : base ≤ w.heap.size) :
    ∃ v' w', (Builtin.append_ #[23, 3] ty #[v, .int kq k]).run Tryd.prog w = .ok v' w' ∧ RowB w' base v' (xs ++ List.replicate k 0) ∧ w.grownBy w' v.ownBlock ∧ (v'.ownBlock = v.ownBlock ∨ v'.ownBlock = some w.heap.size) := by
  obtain ⟨i, z, ht, hi, hz, hsize, hby, hzs, _, _⟩ := el_u8
  have hz0 := u8_zero hi hz
  subst hz0
  have hxb := hown.bytes
  have hyb := bytes_rep k
  have hyl : (List.replicate k (0 : Int)).length = k := List.length_replicate
  rcases hown with ⟨rfl, rfl⟩ | ⟨g, cap, cur, f, rfl, hbg, hB, hf, hnc', hcm', hcl, hcb, htake⟩
  · simp at hp
  · have hlt := hB.lt
    by_cases hroom : xs.length + k ≤ cap
    · have hr := run_append_room_zeros (P := Tryd.prog) w 23 3 ty 5 i (.int .u8 0) kq .i64 ht Tryd.underlying3 hi hz g 0 xs.length cap k (u8s (List.replicate k 0)) (zero_cells k) (by rw [hsize]; omega) (by rw [u8s_len, hyl, hsize]; omega) (u8s_one _) (by rw [hby]; omega) (by omega) hroom
          (fun j hj => by
            rw [u8s_len, hyl] at hj
            rw [hsize, hB.cell, List.getElem?_eq_getElem (by rw [u8s_len]; omega)]; rfl)
          (fun j hj => by
            rw [u8s_len, hyl] at hj
            exact hB.frozen _ (by rw [hsize]; rcases hf with h | h; exact .inl h; exact .inr (by omega)))
      rw [hsize, Nat.mul_one, Nat.zero_add] at hr
      have hB' := BlkF.setCells (u8s (List.replicate k 0)) xs.length hB
      refine ⟨_, _, hr, .inr ⟨g, cap, xs ++ List.replicate k 0 ++ cur.drop (xs.length + k), f, by rw [List.length_append, hyl], hbg, ?_, hf, by rw [List.length_append, hyl]; exact hroom, hcm', ?_, (hxb.app hyb).app (fun x hx => hcb x (List.mem_of_mem_drop hx)), List.take_left' rfl⟩, (grown_setCells (u8s (List.replicate k 0)) w xs.length).1, .inl rfl⟩
      · have e : lset (u8s cur) xs.length (u8s (List.replicate k 0)) = u8s (xs ++ List.replicate k 0 ++ cur.drop (xs.length + k)) := by
          generalize hys : List.replicate k (0 : Int) = ys at *
          rw [← hyl]
          refine List.ext_getElem? fun j => ?_
          rw [lset_get _ _ _ _ (by rw [u8s_len, u8s_len]; omega)]
          unfold u8s
          by_cases hj : xs.length ≤ j ∧ j < xs.length + (List.map (Value.int IntKind.u8) ys).length
          · rw [if_pos hj]
            simp at hj
            rw [List.getElem?_map, List.getElem?_map, List.getElem?_append_left (by simp; omega), List.getElem?_append_right (by omega)]
          · rw [if_neg hj]
            simp at hj
            rw [List.getElem?_map, List.getElem?_map]
            by_cases h2 : j < xs.length
            · rw [List.getElem?_append_left (by simp; omega), List.getElem?_append_left h2]
              conv => rhs; rw [← htake]
              rw [List.getElem?_take_of_lt h2]
            · rw [List.getElem?_append_right (by simp; omega), List.getElem?_drop]
              congr 2
              simp; omega
        rw [← e]; exact hB'
      · rw [List.length_append, List.length_append, List.length_drop, hyl]; omega
    · have holds : ∀ j u, (u8s xs)[j]? = some u → w.cell? ((⟨g, 0, none⟩ : Addr).add j) = some u := fun j u hu => by
        rw [Addr.add_lit, Nat.zero_add, hB.cell]
        have hj : j < xs.length := by
          have := (List.getElem?_eq_some_iff.1 hu).1
          rwa [u8s_len] at this
        rw [← hu]
        conv => rhs; rw [← htake]
        unfold u8s
        rw [List.getElem?_map, List.getElem?_map, List.getElem?_take_of_lt hj]
      have hfo := run_firstCells_some (P := Tryd.prog) w.drew i.size xs.length ⟨g, 0, none⟩ xs.length cap (u8s xs) (by rw [u8s_len, hsize]; omega) (by simpa using holds)
      have hr := Go.Lib.run_append_grow_zeros (P := Tryd.prog) w 23 3 ty 5 i (.int .u8 0) kq .i64 ht Tryd.underlying3 hi hz (some ⟨g, 0, none⟩) xs.length cap (u8s xs) hfo k (by omega) (by rw [hsize]; omega) (by omega) (by omega) (by rw [hby]; omega) (growslice_fits (by omega) (by rw [hby]; omega))
      have hge := grownCap_ge w (xs.length + k) cap 5
      have hcm : grownCap w (xs.length + k) cap 5 ≤ maxLen := grownCap_le_maxLen w _ cap _ (by unfold maxLen; omega)
      refine ⟨_, _, hr, .inr ⟨w.heap.size, _, xs ++ List.replicate k 0 ++ List.replicate (grownCap w (xs.length + k) cap 5 - (xs.length + k)) 0, (0, 0), by rw [List.length_append, hyl], hbase, ?_, .inl rfl, by rw [List.length_append, hyl]; exact hge, hcm, ?_, (hxb.app hyb).app (bytes_rep _), List.take_left' rfl⟩, ⟨rfl, rfl, rfl, by simp, fun k hk _ => heap_alloc_old w.drew _ hk⟩, .inr rfl⟩
      · have e := heap_alloc_new w.drew (.cells ((u8s xs).toArray ++ Builtin.zeroCells (Value.int .u8 0).cells k ++ Builtin.zeroCells (Value.int .u8 0).cells (grownCap w (xs.length + k) cap 5 - (xs.length + k))) 5)
        rw [zero_cells, zero_cells, List.append_toArray, List.append_toArray, u8s_app, u8s_app] at e ⊢
        exact e
      · rw [List.length_append, List.length_append, List.length_replicate, List.length_replicate]; omega

theorem wpList_append_Z {ops : Array Oper} {rest : List Oper} {o : Oper} {a : Act} {w : World} {Q : Exit → Act → World → Prop} (hgd : o.guard = none) (s x : Operand) (ho : o.op = .call { callee := .builtin .append, args := #[s, x], argTypes := #[23, 3] })
    (base : Nat) (v : Value) (xs : List Int) (hs : a.eval s = v) (hown : RowB w base v xs) (hp : 0 < xs.length) (kq : IntKind) (k : Nat) (hx : a.eval x = .int kq k) (hbytes : xs.length + k ≤ 140737488355328) (hbase : base ≤ w.heap.size)
    (h : ∀ v' w', RowB w' base v' (xs ++ List.replicate k 0) → w.grownBy w' v.ownBlock → wpList Tryd.prog ops Q rest (a.put o.dst v') w') : wpList Tryd.prog ops Q (o :: rest) a w := by
  obtain ⟨v', w', hrun, h1, h2, _⟩ := run_append_Z w base o.type kq v xs hown hp k hbytes hbase
  refine wpList_plain hgd fun K hK => ?_
  exact Go.Lib.wp_append_run w s x _ _ ho v _ hs hx v' w' hrun (hK _ _ (h v' w' h1 h2))
end Go.Proofs.YtijhcdmjiclnnaaDoor
