/- aes.columns. No condition. -/
import Derived.Test.YthdjgebbjogmiaaDoorJoin13
set_option linter.unusedVariables false
set_option linter.unusedSimpArgs false
namespace Go.Proofs.YthdjgebbjogmiaaDoor
open Go Go.RowKit

def mixAt (b : List Int) (j : Nat) : Int :=
 X8 (X8 (X8 (X8 (tw (b.getD j 0)) (tw (b.getD (4 * (j / 4) + (j + 1) % 4) 0))) (b.getD (4 * (j / 4) + (j + 1) % 4) 0)) (b.getD (4 * (j / 4) + (j + 2) % 4) 0)) (b.getD (4 * (j / 4) + (j + 3) % 4) 0)
def columnsF (b : List Int) : List Int := (List.range 16).map (mixAt b)
theorem columnsF_len (b : List Int) : (columnsF b).length = 16 := by simp [columnsF]
theorem columnsF_get (b : List Int) (j : Nat) (hj : j < 16) : (columnsF b).getD j 0 = mixAt b j := by
 rw [getD_el _ _ (by rw [columnsF_len]; exact hj)]
 simp [columnsF]
theorem Bytes.getD {xs : List Int} (h : Bytes xs) (i : Nat) : 0 ≤ xs.getD i 0 ∧ xs.getD i 0 < 256 := by
 rcases Nat.lt_or_ge i xs.length with hi | hi
 · rw [getD_el _ _ hi]; exact h.get i hi
 · rw [List.getD_eq_getElem?_getD, List.getElem?_eq_none hi]; simp
theorem mixAt_byte {b : List Int} (h : Bytes b) (j : Nat) : 0 ≤ mixAt b j ∧ mixAt b j < 256 :=
 x8_byte (x8_byte (x8_byte (x8_byte (tw_byte (h.getD _)) (tw_byte (h.getD _))) (h.getD _)) (h.getD _)) (h.getD _)
theorem columnsF_bytes {b : List Int} (h : Bytes b) : Bytes (columnsF b) := fun x hx => by
 obtain ⟨j, _, rfl⟩ := List.mem_map.1 hx
 exact mixAt_byte h j

set_option maxRecDepth 100000 in
set_option maxHeartbeats 2000000 in
theorem columns_any (b : List Int) (w : World) (hb : b.length = 16) (bb : Bytes b) :
 Calls Tryd.prog 99 #[.agg (u8s b).toArray] w fun e w' => e = .returned (.agg (u8s (columnsF b)).toArray) ∧ Below w.heap.size w w' := by
 have HB := hide hb
 have BB := hide bb
 clear hb bb
 go_enter Tryd.func99, Tryd.ntmps99
 go_wp2_with fail
 go_loopw [4, 5, 6, 7, 8, 9, 14] (fun vc _ _ _ _ _ _ wr => ∃ (m : Nat) (xs : List Int), m ≤ 4 ∧ vc = .int .i64 ((4 * m : Nat) : Int) ∧ xs.length = 16 ∧ (∀ j, j < 16 → xs.getD j 0 = if j < 4 * m then mixAt b j else 0) ∧
  Blk wr w.heap.size 22 (u8s b) ∧ Blk wr (w.heap.size + 1) 22 (u8s (List.replicate 16 0)) ∧ Blk wr (w.heap.size + 1 + 1) 22 (u8s xs) ∧ Below w.heap.size w wr) (fun vc _ _ _ _ _ _ _ => 16 - (intOf vc).toNat)
 case atStart =>
  have b1 := ((Blk.new w 22 (u8s b)).alloc (.cells (u8s (List.replicate 16 0)).toArray 22)).alloc (.cells (u8s (List.replicate 16 0)).toArray 22)
  have b2 := (Blk.new (w.alloc (.cells (u8s b).toArray 22)) 22 (u8s (List.replicate 16 0))).alloc (.cells (u8s (List.replicate 16 0)).toArray 22)
  have b3 := Blk.new ((w.alloc (.cells (u8s b).toArray 22)).alloc (.cells (u8s (List.replicate 16 0)).toArray 22)) 22 (u8s (List.replicate 16 0))
  simp only [World.size_alloc] at b2 b3
  exact ⟨0, List.replicate 16 0, Nat.zero_le _, rfl, by simp, fun j hj => by rw [getD_el _ _ (by simpa using hj), List.getElem_replicate]; simp, b1, b2, b3, (((Below.refl w.heap.size w).alloc (Nat.le_refl _) _).alloc (by simp) _).alloc (by simp; omega) _⟩
 case round =>
  obtain ⟨m, xs, hm, rfl, hl, hx, b1, b2, b3, hbel⟩ := hrel
  have HL := hide hl
  have HX := hide hx
  have B1 := hide b1
  have B2 := hide b2
  have B3 := hide b3
  have HBel := hide hbel
  clear hl hx b1 b2 b3 hbel
  obtain ⟨c, hc⟩ : ∃ c, 4 * m = c := ⟨_, rfl⟩
  rw [hc]
  have HC := hide hc
  have hc4 : c ≤ 16 := by omega
  by_cases hmt : m < 4
  · have hc12 : c ≤ 12 := by omega
    have hcd : decide ((c : Int) < 16) = true := by simp; omega
    clear hc
    obtain ⟨wo, rfl⟩ : ∃ wo : World, wo = wr := ⟨_, rfl⟩
    go_wp2_with fail
    go_loopw [5, 6, 7, 8, 9, 14] (fun _ _ _ _ _ vi wr => ∃ (i : Nat) (xs : List Int), i ≤ 4 ∧ vi = .int .i64 i ∧ xs.length = 16 ∧ (∀ j, j < 16 → xs.getD j 0 = if j < c + i then mixAt b j else 0) ∧
     Blk wr w.heap.size 22 (u8s b) ∧ Blk wr (w.heap.size + 1) 22 (u8s (List.replicate 16 0)) ∧ Blk wr (w.heap.size + 1 + 1) 22 (u8s xs) ∧ Below w.heap.size w wr) (fun _ _ _ _ _ vi _ => 4 - (intOf vi).toNat)
    case atStart => exact ⟨0, xs, Nat.zero_le _, rfl, HL.out, by have := HX.out; rw [HC.out] at this; simpa using this, B1.out, B2.out, B3.out, HBel.out⟩
    case round =>
     clear HL HX B1 B2 B3 HBel
     obtain ⟨i, xs, hi, rfl, hl, hx, b1, b2, b3, hbel⟩ := hrel
     have HL := hide hl
     have HX := hide hx
     have B1 := hide b1
     have B2 := hide b2
     have B3 := hide b3
     have HBel := hide hbel
     clear hl hx b1 b2 b3 hbel
     by_cases hit : i < 4
     · obtain ⟨j1, hj1⟩ : ∃ j, (i + 1) % 4 = j := ⟨_, rfl⟩
       obtain ⟨j2, hj2⟩ : ∃ j, (i + 2) % 4 = j := ⟨_, rfl⟩
       obtain ⟨j3, hj3⟩ : ∃ j, (i + 3) % 4 = j := ⟨_, rfl⟩
       have t1 : ((i : Int) + 1).tmod 4 = (j1 : Int) := by rw [Int.tmod_eq_emod_of_nonneg (by omega)]; omega
       have t2 : ((i : Int) + 2).tmod 4 = (j2 : Int) := by rw [Int.tmod_eq_emod_of_nonneg (by omega)]; omega
       have t3 : ((i : Int) + 3).tmod 4 = (j3 : Int) := by rw [Int.tmod_eq_emod_of_nonneg (by omega)]; omega
       have l1 : j1 < 4 := by omega
       have l2 : j2 < 4 := by omega
       have l3 : j3 < 4 := by omega
       have HJ := hide (And.intro hj1 (And.intro hj2 hj3))
       have w0 : IntKind.i64.wrap ((c : Int) + (i : Int)) = (c : Int) + (i : Int) := IntWalk.i64_in _ (by omega)
       have w1 : IntKind.i64.wrap ((i : Int) + 1) = (i : Int) + 1 := IntWalk.i64_in _ (by omega)
       have w2 : IntKind.i64.wrap ((i : Int) + 2) = (i : Int) + 2 := IntWalk.i64_in _ (by omega)
       have w3 : IntKind.i64.wrap ((i : Int) + 3) = (i : Int) + 3 := IntWalk.i64_in _ (by omega)
       have v1 : IntKind.i64.wrap ((c : Int) + (j1 : Int)) = (c : Int) + (j1 : Int) := IntWalk.i64_in _ (by omega)
       have v2 : IntKind.i64.wrap ((c : Int) + (j2 : Int)) = (c : Int) + (j2 : Int) := IntWalk.i64_in _ (by omega)
       have v3 : IntKind.i64.wrap ((c : Int) + (j3 : Int)) = (c : Int) + (j3 : Int) := IntWalk.i64_in _ (by omega)
       obtain ⟨x0, HX0⟩ : ∃ x, Hid (b.getD (c + i) 0 = x) := ⟨_, hide rfl⟩
       obtain ⟨x1, HX1⟩ : ∃ x, Hid (b.getD (c + j1) 0 = x) := ⟨_, hide rfl⟩
       obtain ⟨x2, HX2⟩ : ∃ x, Hid (b.getD (c + j2) 0 = x) := ⟨_, hide rfl⟩
       obtain ⟨x3, HX3⟩ : ∃ x, Hid (b.getD (c + j3) 0 = x) := ⟨_, hide rfl⟩
       have c0 := blk_get B1.out (c + i) x0 (by rw [HB.out]; omega) HX0.out
       have c1 := blk_get B1.out (c + j1) x1 (by rw [HB.out]; omega) HX1.out
       have c2 := blk_get B1.out (c + j2) x2 (by rw [HB.out]; omega) HX2.out
       have c3 := blk_get B1.out (c + j3) x3 (by rw [HB.out]; omega) HX3.out
       obtain ⟨old, HOLD⟩ : ∃ x, Hid (xs.getD (c + i) 0 = x) := ⟨_, hide rfl⟩
       have c4 := blk_get B3.out (c + i) old (by rw [HL.out]; omega) HOLD.out
       have f4 := B3.out.frozen (c + i)
       have y0 := BB.out.getD (c + i)
       have y1 := BB.out.getD (c + j1)
       rw [HX0.out] at y0
       rw [HX1.out] at y1
       obtain ⟨y01, y02⟩ := y0
       obtain ⟨y11, y12⟩ := y1
       have n0 : (0 : Int) ≤ (c : Int) + (i : Int) := by omega
       have n1 : (0 : Int) ≤ (c : Int) + (j1 : Int) := by omega
       have n2 : (0 : Int) ≤ (c : Int) + (j2 : Int) := by omega
       have n3 : (0 : Int) ≤ (c : Int) + (j3 : Int) := by omega
       have m0 : (c : Int) + (i : Int) < 16 := by omega
       have m1 : (c : Int) + (j1 : Int) < 16 := by omega
       have m2 : (c : Int) + (j2 : Int) < 16 := by omega
       have m3 : (c : Int) + (j3 : Int) < 16 := by omega
       go_wp2_with fail
       clear hj1 hj2 hj3
       go_quiet (fail)
       go_wp2_with fail
       refine (twice_any x0 _ y01 y02).mono ?_
       rintro e w' ⟨rfl, rfl⟩
       go_wp2_with fail
       refine (twice_any x1 _ y11 y12).mono ?_
       rintro e w' ⟨rfl, rfl⟩
       go_wp2_with fail
       go_roundw
       case rel =>
        clear w0 w1 w2 w3 v1 v2 v3 t1 t2 t3
        refine ⟨i + 1, xs.set (c + i) (X8 (X8 (X8 (X8 (tw x0) (tw x1)) x1) x2) x3), by omega, by go_num, by simpa using HL.out, fun j hj => ?_, ?_, ?_, ?_, ?_⟩
        · rw [getD_set' _ _ _ _ (by rw [HL.out]; omega)]
          have hxj := HX.out j hj
          obtain ⟨hj1, hj2, hj3⟩ := HJ.out
          have hc := HC.out
          by_cases e : c + i = j
          · rw [if_pos e, if_pos (by omega), ← e]
            unfold mixAt
            rw [show 4 * ((c + i) / 4) + (c + i + 1) % 4 = c + j1 from by omega, show 4 * ((c + i) / 4) + (c + i + 2) % 4 = c + j2 from by omega, show 4 * ((c + i) / 4) + (c + i + 3) % 4 = c + j3 from by omega,
             HX0.out, HX1.out, HX2.out, HX3.out]
          · rw [if_neg e, hxj]
            by_cases h1 : j < c + i
            · rw [if_pos h1, if_pos (by omega)]
            · rw [if_neg h1, if_neg (by omega)]
        · exact B1.out.far (p := ⟨w.heap.size + 1 + 1, c + i, none⟩) (by simp; omega) _
        · exact B2.out.far (p := ⟨w.heap.size + 1 + 1, c + i, none⟩) (by simp) _
        · exact blk_set B3.out (c + i) _
        · exact (Go.below_drewN HBel.out _).setCell (p := ⟨w.heap.size + 1 + 1, c + i, none⟩) (by simp; omega) _
       case measure => simp [intOf]; omega
     · have hi4 : i = 4 := by omega
       have HI4 := hide hi4
       clear hi4
       go_wp2_with fail
       go_roundw
       case rel =>
        refine ⟨m + 1, xs, by omega, ?_, HL.out, ?_, B1.out, B2.out, B3.out, HBel.out⟩
        · rw [← HC.out]; go_num
        · have := HX.out
          rw [HI4.out, ← HC.out] at this
          exact this
       case measure => simp [intOf]; have := HC.out; omega
  · have hx : xs = columnsF b := by
     refine ext_getD (by rw [HL.out, columnsF_len]) fun j hj => ?_
     rw [HL.out] at hj
     rw [HX.out j hj, if_pos (by omega), columnsF_get b j hj]
    have HXX := hide hx
    have hi16 : (Tryd.prog.info? 22).map (·.size) = some (u8s xs).length := by rw [u8s_len, HL.out]; kernel_rfl
    have HI := hide hi16
    clear hx hi16
    go_wp2_with (first | (refine wpList_load_blk rfl 22 _ rfl _ rfl _ _ B3.out 16 5 rfl HI.out ?_) | (refine wpList_store_blk rfl 22 _ _ rfl _ 0 (u8s xs) rfl rfl _ _ B2.out (by rw [u8s_len, u8s_len, HL.out]; simp) HI.out (u8s_one _) ?_; intro w3 hB hg hs))
    have hB2 : Blk w3 (w.heap.size + 1) 22 (u8s xs) := by rw [lset_all _ _ (by rw [u8s_len, u8s_len, HL.out]; simp)] at hB; exact hB
    refine bodyPost_ret (v := .agg (u8s xs).toArray) (results_cell_row rfl _ _ (w.heap.size + 1) 22 _ (0, 0) _ rfl hB2 rfl rfl (by simpa using HI.out)) rfl ⟨by rw [HXX.out], HBel.out.grown hg HBel.out.size (by intro k hk; simp at hk; omega)⟩
end Go.Proofs.YthdjgebbjogmiaaDoor
