/- What AesCounts leans on: the counters' bytes set one after the other; the stream of noughts is the blocks of the counters; a fresh row behind an append onto an array's slice. -/
import Derived.Test.YtoicohcomjnnfaaStreamLaw2
import Derived.Test.YtoicohcomjnnfaaKeep
import Derived.Test.YtoicohcomjnnfaaBytes
import Derived.Test.YtoicohcomjnnfaaArrReg
import Derived.ArgAppend
namespace Go.Proofs.Ytoicohcomjnnfaa
open Go Go.RowKit

theorem ctr_step {xs : List Int} {n k jn : Nat} {v : Int} (hl : xs.length = 16) (hj : jn + k = 15) (h : ∀ j, j < 16 → xs.getD j 0 = if 16 ≤ j + k then ctrAt n j else 0) (hv : v = ctrAt n jn) :
    ∀ j, j < 16 → (xs.set jn v).getD j 0 = if 16 ≤ j + (k + 1) then ctrAt n j else 0 := fun j hj' => by
  rw [getD_set' _ _ _ _ (by omega)]
  by_cases e : jn = j
  · subst e; rw [if_pos rfl, if_pos (by omega), hv]
  · rw [if_neg e, h j hj']
    by_cases h1 : 16 ≤ j + k
    · rw [if_pos h1, if_pos (by omega)]
    · rw [if_neg h1, if_neg (by omega)]
theorem ctr_four {xs : List Int} {n : Nat} (hl : xs.length = 16) (hn : n < 4294967296) (h : ∀ j, j < 16 → xs.getD j 0 = if 16 ≤ j + 4 then ctrAt n j else 0) : xs = ctr n :=
  ext_getD (by rw [hl, ctr_len]) fun j hj => by
    rw [hl] at hj
    rw [h j hj, ctr_get n j hj]
    by_cases h1 : 16 ≤ j + 4
    · rw [if_pos h1]
    · rw [if_neg h1, ctrAt, Nat.div_eq_of_lt]
      · rfl
      · exact Nat.lt_of_lt_of_le hn (Nat.le_trans (show 4294967296 ≤ 256 ^ 4 by decide) (Nat.pow_le_pow_right (by decide) (by omega)))
theorem x8_zero {c : Int} (hc : 0 ≤ c ∧ c < 256) : X8 0 c = c := by
  obtain ⟨c, rfl⟩ := Int.eq_ofNat_of_zero_le hc.1
  have e := x8_nat 0 c (by omega) (by omega)
  rw [show ((0 : Nat) : Int) = 0 from rfl] at e
  rw [e, Nat.zero_xor]
theorem stream_noughts {T ks : List Int} (hT : Bytes T) (hk : ks.length = 176) (bk : Bytes ks) (n : Nat) : streamF T ks (16 * n) (List.replicate 32 0) = blockF T ks (ctr n) ++ blockF T ks (ctr (n + 1)) := by
  have l1 := blockF_len hT hk bk (ctr_len n) (ctr_bytes n)
  have l2 := blockF_len hT hk bk (ctr_len (n + 1)) (ctr_bytes (n + 1))
  refine ext_getD (by rw [streamF_len, List.length_append, l1, l2, List.length_replicate]) fun j hj => ?_
  rw [streamF_len, List.length_replicate] at hj
  rw [streamF_get _ _ _ _ _ (by rw [List.length_replicate]; exact hj), streamAt]
  rw [show (List.replicate 32 (0 : Int)).getD j 0 = 0 by rw [List.getD_eq_getElem?_getD, List.getElem?_replicate]; split <;> rfl, x8_zero (keyAt_byte hT hk bk _), keyAt]
  by_cases h : j < 16
  · rw [show (16 * n + j) / 16 = n by omega, show (16 * n + j) % 16 = j by omega, List.getD_eq_getElem?_getD, List.getD_eq_getElem?_getD, List.getElem?_append_left (by rw [l1]; exact h)]
  · rw [show (16 * n + j) / 16 = n + 1 by omega, show (16 * n + j) % 16 = j - 16 by omega, List.getD_eq_getElem?_getD, List.getD_eq_getElem?_getD, List.getElem?_append_right (by rw [l1]; omega), l1]

theorem wp_alloc_blkG {P : Program} {o : Oper} {a : Act} {w : World} {K : Act → World → Prop} {Q : Exit → Act → World → Prop} (t d : Nat) (ho : o.op = .alloc t) (hd : o.dst = some d) (cs : List Value)
    (hz : (P.info? t).map (·.zero) = some (some (.agg cs.toArray)))
    (h : ∀ (g : Nat) (w' : World), w.heap.size ≤ g → Blk w' g t cs → Below w.heap.size w w' → K (a.put (some d) (.pointer (some ⟨g, 0, none⟩))) w') : o.wp P a w K Q :=
  wp_alloc_blkD t d ho hd cs hz fun w' h1 h2 _ => h _ w' (Nat.le_refl _) h1 h2

/-- 'append' of bytes onto a slice that is full. -/
theorem wp_append_fullD {o : Oper} {a : Act} {w : World} {K : Act → World → Prop} {Q : Exit → Act → World → Prop} (d : Nat) (hd : o.dst = some d) (s x : Operand)
    (hop : o.op = Op.call { callee := Callee.builtin Builtin.append, args := #[s, x], argTypes := #[49, 49] })
    (b : Addr) (n : Nat) (olds : List Int) (hs : a.eval s = .slice (some b) n n) (hlo : olds.length = n) (holds : ∀ j u, (u8s olds)[j]? = some u → w.cell? (b.add j) = some u)
    (ad : Addr) (m c : Nat) (news : List Int) (hx : a.eval x = .slice (some ad) m c) (hn : news.length = m) (hc : ∀ j u, (u8s news)[j]? = some u → w.cell? (ad.add j) = some u)
    (hm : 0 < m) (hb : n + m ≤ 1000000)
    (hK : ∀ v' w', Own8 w' w.heap.size v' (olds ++ news) → w.grownBy w' none → K (a.put (some d) v') w') : o.wp Try.prog a w K Q := by
  obtain ⟨i, z, ht, hi, hz, hsize, hby, hzs, h1, h2⟩ := el_u8
  obtain ⟨v', w', hrun, r1, r2⟩ := run_append_arg_grows (P := Try.prog) w 49 o.type 5 i z 1 1 ht hi hz hsize hby hzs (by omega) b n n (u8s olds) (by rw [u8s_len, hlo]; omega) holds ad m c (u8s news) (by rw [u8s_len, hn]; omega) hc (by omega) (by unfold maxLen; omega) (by omega)
  unfold Oper.wp
  simp only [execOp, hop, resolve, invoke, builtin, Sem.run_bind, Sem.run_pure, Result.andThen_ok, List.map_toArray, List.map_cons, List.map_nil, hs, hx, hrun]
  have h' := hK v' w' (by rw [Own8, List.length_append, hlo, hn, ← u8s_app]; exact r1) r2
  rw [← hd] at h'
  exact h'
end Go.Proofs.Ytoicohcomjnnfaa
