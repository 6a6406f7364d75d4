/- aes.twice, aes.xor. No condition. -/
import Derived.Test.YtoicohcomjnnfaaRows
import Derived.Test.YtoicohcomjnnfaaArr
import Derived.RegionTactic
import Derived.BigRegion
import Derived.BigQuiet
import Derived.Deep.QuietTactic
namespace Go.Proofs.Ytoicohcomjnnfaa
open Go Go.RowKit

def X8 (a b : Int) : Int := bits .xor .u8 a b
theorem x8_nat (a b : Nat) (ha : a < 256) (hb : b < 256) : X8 (a : Int) (b : Int) = ((a ^^^ b : Nat) : Int) := by
  have hx : a ^^^ b < 2 ^ 8 := Nat.xor_lt_two_pow (by omega) (by omega)
  have e : ∀ n : Nat, n < 256 → (BitVec.ofInt 8 (n : Int)).toNat = n := fun n hn => by
    rw [BitVec.ofInt_natCast, BitVec.toNat_ofNat]; exact Nat.mod_eq_of_lt (by omega)
  show IntKind.u8.wrap ((BitVec.ofInt 8 (a : Int) ^^^ BitVec.ofInt 8 (b : Int)).toNat : Int) = _
  rw [BitVec.toNat_xor, e a ha, e b hb, IntKind.wrap_u8]
  omega
theorem x8_byte {a b : Int} (ha : 0 ≤ a ∧ a < 256) (hb : 0 ≤ b ∧ b < 256) : 0 ≤ X8 a b ∧ X8 a b < 256 := by
  obtain ⟨a, rfl⟩ := Int.eq_ofNat_of_zero_le ha.1
  obtain ⟨b, rfl⟩ := Int.eq_ofNat_of_zero_le hb.1
  rw [x8_nat a b (by omega) (by omega)]
  have hx : a ^^^ b < 2 ^ 8 := Nat.xor_lt_two_pow (by omega) (by omega)
  omega

/-- Times x. -/
def tw (a : Int) : Int := if (bits .and .u8 a 128 != 0) = true then X8 (a * 2 % 256) 27 else a * 2 % 256
theorem tw_byte {a : Int} (ha : 0 ≤ a ∧ a < 256) : 0 ≤ tw a ∧ tw a < 256 := by
  unfold tw
  split
  · exact x8_byte (by omega) (by omega)
  · omega

set_option maxHeartbeats 400000 in
theorem twice_any (a : Int) (w : World) (h0 : 0 ≤ a) (h1 : a < 256) :
    Calls Try.prog 55 #[.int .u8 a] w fun e w' => e = .returned (.int .u8 (tw a)) ∧ w = w' := by
  have H := hide (show tw a = if (bits .and .u8 a 128 != 0) = true then X8 (a * 2 % 256) 27 else a * 2 % 256 from rfl)
  go_enter Try.func55, Try.ntmps55
  go_wp2
  · go_ret
    exact ⟨by rw [H.out, if_pos (by assumption)]; rfl, rfl⟩
  · go_ret
    have h : (bits .and .u8 a 128 != 0) = false := by assumption
    exact ⟨by rw [H.out, h]; rfl, rfl⟩

theorem ext_getD {xs ys : List Int} (hl : xs.length = ys.length) (h : ∀ j, j < xs.length → xs.getD j 0 = ys.getD j 0) : xs = ys :=
  List.ext_getElem hl fun j h1 h2 => by
    have := h j h1
    rwa [List.getD_eq_getElem?_getD, List.getD_eq_getElem?_getD, List.getElem?_eq_getElem h1, List.getElem?_eq_getElem h2] at this
theorem getD_set' (l : List Int) (i j : Nat) (a : Int) (h : i < l.length) : (l.set i a).getD j 0 = if i = j then a else l.getD j 0 := by
  rw [List.getD_eq_getElem?_getD, List.getElem?_set, List.getD_eq_getElem?_getD]
  split
  · rename_i e; subst e; simp [h]
  · rfl
theorem getD_el (l : List Int) (i : Nat) (h : i < l.length) : l.getD i 0 = l[i] := by
  rw [List.getD_eq_getElem?_getD, List.getElem?_eq_getElem h]; rfl

def xorF (a b : List Int) : List Int := List.zipWith X8 a b
theorem xorF_len (a b : List Int) (ha : a.length = 16) (hb : b.length = 16) : (xorF a b).length = 16 := by simp [xorF, ha, hb]
theorem xorF_get (a b : List Int) (j : Nat) (ha : j < a.length) (hb : j < b.length) : (xorF a b).getD j 0 = X8 (a.getD j 0) (b.getD j 0) := by
  rw [getD_el _ _ (by simp [xorF]; omega), getD_el _ _ ha, getD_el _ _ hb]
  simp [xorF]

set_option maxHeartbeats 1000000 in
theorem xor_any (a b : List Int) (w : World) (ha : a.length = 16) (hb : b.length = 16) (ba : Bytes a) (bb : Bytes b) :
    Calls Try.prog 57 #[.agg (u8s a).toArray, .agg (u8s b).toArray] w fun e w' => e = .returned (.agg (u8s (xorF a b)).toArray) ∧ Below w.heap.size w w' := by
  have HA := hide ha
  have HB := hide hb
  have BA := hide ba
  have BB := hide bb
  clear ha hb ba bb
  go_enter Try.func57, Try.ntmps57
  go_wp2_with fail
  go_loopw [5, 6] (fun _ i wr => ∃ (k : Nat) (xs : List Int), k ≤ 16 ∧ i = .int .i64 k ∧ xs.length = 16 ∧ (∀ j, j < 16 → xs.getD j 0 = if j < k then X8 (a.getD j 0) (b.getD j 0) else a.getD j 0) ∧
    Blk wr w.heap.size 42 (u8s xs) ∧ Blk wr (w.heap.size + 1) 42 (u8s b) ∧ Blk wr (w.heap.size + 1 + 1) 42 (u8s (List.replicate 16 0)) ∧ Below w.heap.size w wr) (fun _ i _ => 16 - (intOf i).toNat)
  case atStart =>
    have b1 := ((Blk.new w 42 (u8s a)).alloc (.cells (u8s b).toArray 42)).alloc (.cells (u8s (List.replicate 16 0)).toArray 42)
    have b2 := (Blk.new (w.alloc (.cells (u8s a).toArray 42)) 42 (u8s b)).alloc (.cells (u8s (List.replicate 16 0)).toArray 42)
    have b3 := Blk.new ((w.alloc (.cells (u8s a).toArray 42)).alloc (.cells (u8s b).toArray 42)) 42 (u8s (List.replicate 16 0))
    simp only [World.size_alloc] at b2 b3
    exact ⟨0, a, Nat.zero_le _, rfl, HA.out, fun j _ => by simp, b1, b2, b3, (((Below.refl w.heap.size w).alloc (Nat.le_refl _) _).alloc (by simp) _).alloc (by simp; omega) _⟩
  case round =>
    obtain ⟨k, xs, hk, rfl, hl, hx, b1, b2, b3, hbel⟩ := hrel
    have HL := hide hl
    have HX := hide hx
    have B1 := hide b1
    have B2 := hide b2
    have B3 := hide b3
    have HBel := hide hbel
    clear hl hx b1 b2 b3 hbel
    by_cases hkt : k < 16
    · have c1 := blk_u8 B1.out k (by rw [HL.out]; exact hkt)
      have c2 := blk_u8 B2.out k (by rw [HB.out]; exact hkt)
      have f1 := B1.out.frozen k
      have hk0 : (0 : Int) ≤ (k : Int) := by omega
      have hk1 : (k : Int) < 16 := by omega
      obtain ⟨x, HXk⟩ : ∃ x, Hid (xs[k]'(by rw [HL.out]; exact hkt) = x) := ⟨_, hide rfl⟩
      obtain ⟨y, HYk⟩ : ∃ y, Hid (b[k]'(by rw [HB.out]; exact hkt) = y) := ⟨_, hide rfl⟩
      rw [HXk.out] at c1
      rw [HYk.out] at c2
      go_wp2_with fail
      go_region
      all_goals
        go_wp2_with fail
        go_roundw
        case rel =>
          refine ⟨k + 1, xs.set k (X8 x y), by omega, by go_num, by simpa using HL.out, fun j hj => ?_, blk_set B1.out k _, (B2.out.far (p := ⟨w.heap.size, k, none⟩) (by simp) _), (B3.out.far (p := ⟨w.heap.size, k, none⟩) (by simp; omega) _), (HBel.out.setCell (by simp) _).drew⟩
          rw [getD_set' _ _ _ _ (by rw [HL.out]; exact hkt)]
          have hxj := HX.out j hj
          by_cases e : k = j
          · subst e
            rw [if_pos rfl, if_pos (by omega)]
            rw [if_neg (by omega), getD_el _ _ (by rw [HL.out]; exact hkt), HXk.out] at hxj
            rw [← hxj, getD_el b _ (by rw [HB.out]; exact hkt), HYk.out]
          · rw [if_neg e, hxj]
            by_cases h1 : j < k
            · rw [if_pos h1, if_pos (by omega)]
            · rw [if_neg h1, if_neg (by omega)]
        case measure => simp [intOf]; omega
    · have hx : xs = xorF a b := by
        refine ext_getD (by rw [HL.out, xorF_len a b HA.out HB.out]) fun j hj => ?_
        rw [HL.out] at hj
        rw [HX.out j hj, if_pos (by omega), xorF_get a b j (by rw [HA.out]; exact hj) (by rw [HB.out]; exact hj)]
      have HXX := hide hx
      have hi16 : (Try.prog.info? 42).map (·.size) = some (u8s xs).length := by rw [u8s_len, HL.out]; kernel_rfl
      have HI := hide hi16
      clear hx hi16
      go_wp2_with (first | (refine wpList_load_blk rfl 42 _ rfl _ rfl _ _ B1.out 16 5 rfl HI.out ?_) | (refine wpList_store_blk rfl 42 _ _ rfl _ 0 (u8s xs) rfl rfl _ _ B3.out (by rw [u8s_len, u8s_len, HL.out]; simp) HI.out (u8s_one _) ?_; intro w3 hB hg hs))
      have hB2 : Blk w3 (w.heap.size + 1 + 1) 42 (u8s xs) := by rw [lset_all _ _ (by rw [u8s_len, u8s_len, HL.out]; simp)] at hB; exact hB
      refine bodyPost_ret (v := .agg (u8s xs).toArray) (results_cell_row rfl _ _ (w.heap.size + 1 + 1) 42 _ (0, 0) _ rfl hB2 rfl rfl (by simpa using HI.out)) rfl ⟨by rw [HXX.out], HBel.out.grown hg HBel.out.size (by intro k hk; simp at hk; omega)⟩
end Go.Proofs.Ytoicohcomjnnfaa
