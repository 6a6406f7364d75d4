/- P3.1: the stream of noughts is AES of 0, 1, 2, ... No condition. -/
import Derived.Test.YtoicohcomjnnfaaFrameArr
import Derived.Test.YtoicohcomjnnfaaFrameBytes
import Derived.Test.YtoicohcomjnnfaaWakes03
import Derived.Test.YtoicohcomjnnfaaStream
import Derived.Test.YtoicohcomjnnfaaStreamLaw2
import Derived.Test.YtoicohcomjnnfaaAesBlock
import Derived.Test.YtoicohcomjnnfaaKeep
import Derived.Test.YtoicohcomjnnfaaSmall
import Derived.Test.YtoicohcomjnnfaaMakeD
import Derived.Test.YtoicohcomjnnfaaTakeD
import Derived.Test.YtoicohcomjnnfaaCounts
namespace Go.Proofs.Ytoicohcomjnnfaa.LawAesCounts
open Go Go.RowKit Go.ChangeShapes Go.WideShapes Go.ChangeAt Go.Proofs.Ytoicohcomjnnfaa
set_option linter.unusedVariables false

set_option maxHeartbeats 4000000 in
theorem walk (w : World) (key : List Int) (hk : key.length = 16) (bk : Bytes key) (n_ : Int) (hat : In64 n_) :
    Calls Try.prog 13 #[.agg (u8s key).toArray, .int .i64 n_] w fun e w' => e = .returned (.bool true) ∧ Below w.heap.size w w' := by
  have HC0 := fun (at_ : Int) (b : List Int) (v : Value) (w : World) => Stream_blk key b at_ v w hk bk
  have HBE : ∀ x, BlockF key x = blockF boxTab (ExpandF key) x := fun x => by unfold BlockF ExpandF; rfl
  have HX0 := fun (x : List Int) (w : World) => Block_any key x w hk bk
  have HT := hide tab_bytes
  simp only [HBE] at HX0
  clear HBE
  obtain ⟨T, HTT⟩ : ∃ T, Hid (boxTab = T) := ⟨_, hide rfl⟩
  have HKL := hide (ExpandF_len hk bk)
  have HKB := hide (ExpandF_bytes hk bk)
  obtain ⟨ks, HKS⟩ : ∃ T, Hid (ExpandF key = T) := ⟨_, hide rfl⟩
  rw [HTT.out] at HT HC0 HX0
  rw [HKS.out] at HKL HKB HC0 HX0
  have HC := hide HC0
  have HX := hide HX0
  have HIK := hide (show (Try.prog.info? 43).map (·.size) = some (u8s key).length by rw [u8s_len, hk]; kernel_rfl)
  obtain ⟨ha1, ha2⟩ := hat
  clear hk bk HC0 HX0 HTT HKS
  go_enter Try.func13, Try.ntmps13
  go_wp2_with fail
  refine (within_any n_ 70000 _ ha1 ha2 (by omega)).mono ?_
  rintro e w' ⟨rfl, rfl⟩
  obtain ⟨n, ea, hn⟩ : ∃ a : Nat, within n_ 70000 = (a : Int) ∧ a < 70000 := by
    unfold within; rw [if_neg (by omega)]
    exact ⟨(n_ % 70000).toNat, by omega, by omega⟩
  rw [ea]
  clear ea
  obtain ⟨wb, HW⟩ : ∃ wb, Hid (w.alloc (.cells (u8s key).toArray 43) = wb) := ⟨_, hide rfl⟩
  have B1 := hide (show Blk wb w.heap.size 43 (u8s key) by rw [← HW.out]; exact Blk.new w 43 (u8s key))
  have HB := hide (show Below w.heap.size w wb by rw [← HW.out]; exact (Below.refl w.heap.size w).alloc (Nat.le_refl _) _)
  have hwb := B1.out.lt
  rw [HW.out]
  clear HW
  have w16 : IntKind.i64.wrap (16 * (n : Int)) = 16 * (n : Int) := IntWalk.i64_in _ (by omega)
  have HCZ := hide (fun (w' : World) (gz : Nat) (hz : Blk w' gz 5 (u8s (List.replicate 32 0))) => (HC.out (16 * (n : Int)) (List.replicate 32 0) (.slice (some ⟨gz, 0, none⟩) 32 32) w' ⟨by omega, by omega⟩ (by
    have h := (Own8.of_blk (base := gz) hz (Nat.le_refl _) (by rw [List.length_replicate]; decide)).reads
    rw [List.length_replicate] at h
    exact h) (by rw [List.length_replicate]; omega) (fun x hx => by have := (List.mem_replicate.1 hx).2; subst this; omega)))
  rw [List.length_replicate, show (16 * (n : Int)) = ((16 * n : Nat) : Int) by omega, atF_of (16 * n) (by omega)] at HCZ
  obtain ⟨Z, HZ⟩ : ∃ x, Hid (streamF T ks (16 * n) (List.replicate 32 0) = x) := ⟨_, hide rfl⟩
  rw [HZ.out] at HCZ
  clear HC
  go_wp2_with fail
  go_cut [5] from 13 to 17 (fun s5 wx => ∃ g : Nat, s5 = .slice (some ⟨g, 0, none⟩) 32 32 ∧ Blk wx g 5 (u8s Z) ∧ Below wb.heap.size wb wx)
  case first =>
    refine wp_region_held_drew (S := fun w' => Below wb.heap.size wb w') (by kernel_rfl) (Below.refl _ _).drew (fun hHeld => ?_)
    refine take_d 13 (i := 0) (v := .agg (u8s key).toArray) rfl (by kernel_rfl) (by kernel_rfl) (by kernel_rfl) (by kernel_rfl) (fun _ _ _ h => h) (yieldsIf_load_mid (by kernel_rfl) 43 _ rfl w.heap.size 0 rfl (u8s key) _ (fun w' hS => blk_range (B1.out.below hS (by omega)) 0 _ (fun j u h => by simpa using h)) rfl rfl HIK.out) hHeld ?_
    refine take_d 14 (i := 1) (v := .int .i64 (n : Int)) rfl (by kernel_rfl) (by kernel_rfl) (by kernel_rfl) (by kernel_rfl) (fun _ _ _ h => h) (Or.inl ⟨by kernel_rfl, fun w' hS => by go_simp⟩) hHeld ?_
    refine take_d 15 (i := 2) (v := .int .i64 ((16 * n : Nat) : Int)) rfl (by kernel_rfl) (by kernel_rfl) (by kernel_rfl) (by kernel_rfl) (fun _ _ _ h => h) (Or.inl ⟨by kernel_rfl, fun w' hS => by rw [show ((16 * n : Nat) : Int) = 16 * (n : Int) by omega]; go_simp⟩) hHeld ?_
    simp only [Act.put, List.setIfInBounds_toArray, List.set_cons_zero, List.set_cons_succ]
    refine wpAnyH_ready (rs := [3]) (by kernel_rfl) (by simp) (AllReadyH.cons rfl (fun K hK => ?mk) AllReadyH.nil)
    case mk =>
    rw [if_pos (by kernel_rfl)]
    refine wp_make_bytesD 16 (by kernel_rfl) (.const (.int .i64 32)) (.const (.int .i64 32)) (by kernel_rfl) .i64 .i64 32 32 (by kernel_rfl) (by kernel_rfl) (Nat.le_refl _) (by omega) ?_
    intro w4 bz hbx hsx
    refine hK.out _ _ (hHeld.trans (hbx.mono hHeld.size)) (fun hHeld => ?_)
    clear hK K hbx
    simp only [Act.put, List.setIfInBounds_toArray, List.set_cons_zero, List.set_cons_succ]
    refine wpAnyH_ready (rs := [4]) (by kernel_rfl) (by simp) (AllReadyH.cons rfl (fun K hK => ?cl) AllReadyH.nil)
    case cl =>
    rw [if_pos (by kernel_rfl)]
    go_simp
    refine (HCZ.out _ _ bz).mono ?_
    rintro e w5 ⟨g, rfl, hg, bg, hbx⟩
    go_simp
    refine hK.out _ _ (hHeld.trans (hbx.mono hHeld.size)) (fun hHeld => ?_)
    clear hK K hbx
    try simp only [Act.put, List.setIfInBounds_toArray, List.set_cons_zero, List.set_cons_succ]
    refine take_d 5 (i := 5) (v := .slice (some ⟨g, 0, none⟩) 32 32) rfl (by kernel_rfl) (by kernel_rfl) (by kernel_rfl) (by kernel_rfl) (fun _ _ _ h => h) (Or.inl ⟨by kernel_rfl, fun w' hS => by go_simp⟩) hHeld ?_
    simp only [Act.put, List.setIfInBounds_toArray, List.set_cons_zero, List.set_cons_succ]
    refine wpAnyH_done (by kernel_rfl) ?_ _
    go_wp2_with fail
    go_meet
    exact ⟨g, rfl, bg, hHeld⟩
  case rest =>
    obtain ⟨g5, rfl, b5, hbel⟩ := hcut
    have K5 := hide b5
    have l5 := b5.lt
    have HBC := hide hbel
    have hsc := hbel.size
    clear b5 hbel HCZ w16
    go_wp2_with fail
    go_loopw [8] (fun vi wr => ∃ (k : Nat) (xs ys : List Int), k ≤ 4 ∧ vi = .int .i64 k ∧ xs.length = 16 ∧ ys.length = 16 ∧ (∀ j, j < 16 → xs.getD j 0 = if 16 ≤ j + k then ctrAt n j else 0) ∧ (∀ j, j < 16 → ys.getD j 0 = if 16 ≤ j + k then ctrAt (n + 1) j else 0) ∧
      Blk wr wc.heap.size 42 (u8s xs) ∧ Blk wr (wc.heap.size + 1) 42 (u8s ys) ∧ Below wc.heap.size wc wr) (fun vi _ => (4 - intOf vi).toNat)
    case atStart =>
      have b1 := ((Blk.new wc 42 (u8s (List.replicate 16 0)))).alloc (.cells (u8s (List.replicate 16 0)).toArray 42)
      have b2 := Blk.new (wc.alloc (.cells (u8s (List.replicate 16 0)).toArray 42)) 42 (u8s (List.replicate 16 0))
      simp only [World.size_alloc] at b2
      exact ⟨0, List.replicate 16 0, List.replicate 16 0, by omega, rfl, by simp, by simp, fun j hj => by rw [if_neg (by omega), getD_rep], fun j hj => by rw [if_neg (by omega), getD_rep], b1, b2, ((Below.refl wc.heap.size wc).alloc (Nat.le_refl _) _).alloc (by simp) _⟩
    case round =>
      obtain ⟨k, xs, ys, hk, rfl, hxl, hyl, hx, hy, bx, by_, hbel⟩ := hrel
      have HXL := hide hxl
      have HYL := hide hyl
      have HXS := hide hx
      have HYS := hide hy
      have BX := hide bx
      have BY := hide by_
      have HBW := hide hbel
      clear hxl hyl hx hy bx by_ hbel
      by_cases hkt : k < 4
      · rcases show k = 0 ∨ k = 1 ∨ k = 2 ∨ k = 3 by omega with rfl | rfl | rfl | rfl
        all_goals
          clear hkt hk
        · have c1 := blk_get BX.out 15 _ (by rw [HXL.out]; omega) rfl
          have c2 := blk_get BY.out 15 _ (by rw [HYL.out]; omega) rfl
          have f1 := BX.out.frozen 15
          have f2 := BY.out.frozen 15
          have w1 : IntKind.i64.wrap ((n : Int) + 1) = (n : Int) + 1 := IntWalk.i64_in _ (by omega)
          go_wp2_with fail
          go_roundw
          case measure => simp [intOf]
          case rel =>
            refine ⟨1, xs.set 15 _, ys.set 15 _, by omega, rfl, by simpa using HXL.out, by simpa using HYL.out, ctr_step HXL.out rfl HXS.out ?_, ctr_step HYL.out rfl HYS.out ?_, (blk_set BX.out 15 _).far (p := ⟨wc.heap.size + 1, 15, none⟩) (by simp) _, blk_set (BY.out.far (p := ⟨wc.heap.size, 15, none⟩) (by simp) _) 15 _, (HBW.out.setCell (p := ⟨wc.heap.size, 15, none⟩) (by simp) _).setCell (p := ⟨wc.heap.size + 1, 15, none⟩) (by simp) _⟩
            · unfold ctrAt; rw [show 256 ^ (15 - 15) = 1 from rfl]; omega
            · unfold ctrAt; rw [show 256 ^ (15 - 15) = 1 from rfl]; omega
        · have c1 := blk_get BX.out 14 _ (by rw [HXL.out]; omega) rfl
          have c2 := blk_get BY.out 14 _ (by rw [HYL.out]; omega) rfl
          have f1 := BX.out.frozen 14
          have f2 := BY.out.frozen 14
          have w1 : IntKind.i64.wrap ((n : Int) + 1) = (n : Int) + 1 := IntWalk.i64_in _ (by omega)
          go_wp2_with fail
          go_roundw
          case measure => simp [intOf]
          case rel =>
            refine ⟨2, xs.set 14 _, ys.set 14 _, by omega, rfl, by simpa using HXL.out, by simpa using HYL.out, ctr_step HXL.out rfl HXS.out ?_, ctr_step HYL.out rfl HYS.out ?_, (blk_set BX.out 14 _).far (p := ⟨wc.heap.size + 1, 14, none⟩) (by simp) _, blk_set (BY.out.far (p := ⟨wc.heap.size, 14, none⟩) (by simp) _) 14 _, (HBW.out.setCell (p := ⟨wc.heap.size, 14, none⟩) (by simp) _).setCell (p := ⟨wc.heap.size + 1, 14, none⟩) (by simp) _⟩
            · unfold ctrAt; rw [show 256 ^ (15 - 14) = 256 from rfl]; omega
            · unfold ctrAt; rw [show 256 ^ (15 - 14) = 256 from rfl]; omega
        · have c1 := blk_get BX.out 13 _ (by rw [HXL.out]; omega) rfl
          have c2 := blk_get BY.out 13 _ (by rw [HYL.out]; omega) rfl
          have f1 := BX.out.frozen 13
          have f2 := BY.out.frozen 13
          have w1 : IntKind.i64.wrap ((n : Int) + 1) = (n : Int) + 1 := IntWalk.i64_in _ (by omega)
          go_wp2_with fail
          go_roundw
          case measure => simp [intOf]
          case rel =>
            refine ⟨3, xs.set 13 _, ys.set 13 _, by omega, rfl, by simpa using HXL.out, by simpa using HYL.out, ctr_step HXL.out rfl HXS.out ?_, ctr_step HYL.out rfl HYS.out ?_, (blk_set BX.out 13 _).far (p := ⟨wc.heap.size + 1, 13, none⟩) (by simp) _, blk_set (BY.out.far (p := ⟨wc.heap.size, 13, none⟩) (by simp) _) 13 _, (HBW.out.setCell (p := ⟨wc.heap.size, 13, none⟩) (by simp) _).setCell (p := ⟨wc.heap.size + 1, 13, none⟩) (by simp) _⟩
            · unfold ctrAt; rw [show 256 ^ (15 - 13) = 65536 from rfl]; omega
            · unfold ctrAt; rw [show 256 ^ (15 - 13) = 65536 from rfl]; omega
        · have c1 := blk_get BX.out 12 _ (by rw [HXL.out]; omega) rfl
          have c2 := blk_get BY.out 12 _ (by rw [HYL.out]; omega) rfl
          have f1 := BX.out.frozen 12
          have f2 := BY.out.frozen 12
          have w1 : IntKind.i64.wrap ((n : Int) + 1) = (n : Int) + 1 := IntWalk.i64_in _ (by omega)
          go_wp2_with fail
          go_roundw
          case measure => simp [intOf]
          case rel =>
            refine ⟨4, xs.set 12 _, ys.set 12 _, by omega, rfl, by simpa using HXL.out, by simpa using HYL.out, ctr_step HXL.out rfl HXS.out ?_, ctr_step HYL.out rfl HYS.out ?_, (blk_set BX.out 12 _).far (p := ⟨wc.heap.size + 1, 12, none⟩) (by simp) _, blk_set (BY.out.far (p := ⟨wc.heap.size, 12, none⟩) (by simp) _) 12 _, (HBW.out.setCell (p := ⟨wc.heap.size, 12, none⟩) (by simp) _).setCell (p := ⟨wc.heap.size + 1, 12, none⟩) (by simp) _⟩
            · unfold ctrAt; rw [show 256 ^ (15 - 12) = 16777216 from rfl]; omega
            · unfold ctrAt; rw [show 256 ^ (15 - 12) = 16777216 from rfl]; omega
      · obtain rfl : k = 4 := by omega
        have e1 := ctr_four HXL.out (by omega) HXS.out
        have e2 := ctr_four HYL.out (by omega) HYS.out
        subst e1
        subst e2
        have hgs := BY.out.lt
        have U0 := hide (fun (w' : World) => HX.out (ctr n) w' (ctr_len n) (ctr_bytes n))
        have V0 := hide (fun (w' : World) => HX.out (ctr (n + 1)) w' (ctr_len (n + 1)) (ctr_bytes (n + 1)))
        have HUL := hide (blockF_len HT.out.2 HKL.out HKB.out (ctr_len n) (ctr_bytes n))
        have HVL := hide (blockF_len HT.out.2 HKL.out HKB.out (ctr_len (n + 1)) (ctr_bytes (n + 1)))
        have HZZ := hide (stream_noughts HT.out.2 HKL.out HKB.out n)
        rw [HZ.out] at HZZ
        have HI1 := hide (show (Try.prog.info? 42).map (·.size) = some (u8s (ctr n)).length by rw [u8s_len, ctr_len]; exact size16)
        have HI2 := hide (show (Try.prog.info? 42).map (·.size) = some (u8s (ctr (n + 1))).length by rw [u8s_len, ctr_len]; exact size16)
        obtain ⟨U, HU⟩ : ∃ x, Hid (blockF T ks (ctr n) = x) := ⟨_, hide rfl⟩
        obtain ⟨V, HV⟩ : ∃ x, Hid (blockF T ks (ctr (n + 1)) = x) := ⟨_, hide rfl⟩
        rw [HU.out] at U0 HUL HZZ
        rw [HV.out] at V0 HVL HZZ
        obtain ⟨X1, HX1⟩ : ∃ x, Hid (ctr n = x) := ⟨_, hide rfl⟩
        obtain ⟨X2, HX2⟩ : ∃ x, Hid (ctr (n + 1) = x) := ⟨_, hide rfl⟩
        have BX1 := hide (show Blk wr wc.heap.size 42 (u8s X1) by rw [← HX1.out]; exact BX.out)
        have BX2 := hide (show Blk wr (wc.heap.size + 1) 42 (u8s X2) by rw [← HX2.out]; exact BY.out)
        rw [HX1.out] at U0 HI1
        rw [HX2.out] at V0 HI2
        have BKW := hide ((B1.out.below HBC.out (by omega)).below HBW.out (by omega))
        have K5W := hide (K5.out.below HBW.out l5)
        have HBR := hide (HB.out.trans ((HBC.out.trans (HBW.out.mono (by omega))).mono (by omega)))
        have HSU := hide (show (Try.prog.info? 42).map (·.size) = some (u8s U).length by rw [u8s_len, HUL.out]; exact size16)
        have HSV := hide (show (Try.prog.info? 42).map (·.size) = some (u8s V).length by rw [u8s_len, HVL.out]; exact size16)
        have HEU := hide (show (0 : Nat) + (u8s U).length ≤ (u8s (List.replicate 16 0)).length by rw [u8s_len, u8s_len, HUL.out]; simp)
        have HEV := hide (show (0 : Nat) + (u8s V).length ≤ (u8s (List.replicate 16 0)).length by rw [u8s_len, u8s_len, HVL.out]; simp)
        have HLU := hide (show lset (u8s (List.replicate 16 0)) 0 (u8s U) = u8s U from lset_all _ _ (by rw [u8s_len, u8s_len, HUL.out]; simp))
        have HLV := hide (show lset (u8s (List.replicate 16 0)) 0 (u8s V) = u8s V from lset_all _ _ (by rw [u8s_len, u8s_len, HVL.out]; simp))
        clear HU HV HX1 HX2 BX BY HXS HYS HXL HYL HX HT HKL HKB HZ B1 HBC HBW K5
        go_wp2_with fail
        go_cut [9, 10] from 41 to 46 (fun s9 s10 wx => ∃ g1 g2 : Nat, s9 = .pointer (some ⟨g1, 0, none⟩) ∧ s10 = .pointer (some ⟨g2, 0, none⟩) ∧ Blk wx g1 42 (u8s U) ∧ Blk wx g2 42 (u8s V) ∧ Below wr.heap.size wr wx)
        case first =>
          refine wp_region_held_drew (S := fun w' => Below wr.heap.size wr w') (by kernel_rfl) (Below.refl _ _).drew (fun hHeld => ?_)
          refine take_d 41 (i := 0) (v := .agg (u8s key).toArray) rfl (by kernel_rfl) (by kernel_rfl) (by kernel_rfl) (by kernel_rfl) (fun _ _ _ h => h) (yieldsIf_load_mid (by kernel_rfl) 43 _ rfl w.heap.size 0 rfl (u8s key) _ (fun w' hS => blk_range (BKW.out.below hS (by omega)) 0 _ (fun j u h => by simpa using h)) rfl rfl HIK.out) hHeld ?_
          refine take_d 42 (i := 1) (v := .agg (u8s X1).toArray) rfl (by kernel_rfl) (by kernel_rfl) (by kernel_rfl) (by kernel_rfl) (fun _ _ _ h => h) (yieldsIf_load_mid (by kernel_rfl) 42 _ rfl wc.heap.size 0 rfl (u8s X1) _ (fun w' hS => blk_range (BX1.out.below hS (by omega)) 0 _ (fun j u h => by simpa using h)) rfl rfl HI1.out) hHeld ?_
          refine take_d 44 (i := 3) (v := .agg (u8s key).toArray) rfl (by kernel_rfl) (by kernel_rfl) (by kernel_rfl) (by kernel_rfl) (fun _ _ _ h => h) (yieldsIf_load_mid (by kernel_rfl) 43 _ rfl w.heap.size 0 rfl (u8s key) _ (fun w' hS => blk_range (BKW.out.below hS (by omega)) 0 _ (fun j u h => by simpa using h)) rfl rfl HIK.out) hHeld ?_
          refine take_d 45 (i := 4) (v := .agg (u8s X2).toArray) rfl (by kernel_rfl) (by kernel_rfl) (by kernel_rfl) (by kernel_rfl) (fun _ _ _ h => h) (yieldsIf_load_mid (by kernel_rfl) 42 _ rfl (wc.heap.size + 1) 0 rfl (u8s X2) _ (fun w' hS => blk_range (BX2.out.below hS (by omega)) 0 _ (fun j u h => by simpa using h)) rfl rfl HI2.out) hHeld ?_
          simp only [Act.put, List.setIfInBounds_toArray, List.set_cons_zero, List.set_cons_succ]
          refine wpAnyH_ready (rs := [2, 6, 7]) (by kernel_rfl) (by simp) (AllReadyH.cons rfl (fun K hK => ?c110) (AllReadyH.cons rfl (fun K hK => ?a110) (AllReadyH.cons rfl (fun K hK => ?a210) AllReadyH.nil)))
          case c110 =>
            rw [if_pos (by kernel_rfl)]
            go_simp
            refine (U0.out _).mono ?_
            rintro e wx1 ⟨rfl, hbx⟩
            go_simp
            have hsz := hbx.size
            have hzz := hHeld.size
            refine hK.out _ _ (hHeld.trans (hbx.mono hHeld.size)) (fun hHeld => ?_)
            clear hK K hbx
            try simp only [Act.put, List.setIfInBounds_toArray, List.set_cons_zero, List.set_cons_succ]
            refine wpAnyH_ready (rs := [5, 6, 7]) (by kernel_rfl) (by simp) (AllReadyH.cons rfl (fun K hK => ?c212) (AllReadyH.cons rfl (fun K hK => ?a112) (AllReadyH.cons rfl (fun K hK => ?a212) AllReadyH.nil)))
            case c212 =>
              rw [if_pos (by kernel_rfl)]
              go_simp
              refine (V0.out _).mono ?_
              rintro e wx2 ⟨rfl, hbx⟩
              go_simp
              have hsz := hbx.size
              have hzz := hHeld.size
              refine hK.out _ _ (hHeld.trans (hbx.mono hHeld.size)) (fun hHeld => ?_)
              clear hK K hbx
              try simp only [Act.put, List.setIfInBounds_toArray, List.set_cons_zero, List.set_cons_succ]
              refine wpAnyH_ready (rs := [6, 7]) (by kernel_rfl) (by simp) (AllReadyH.cons rfl (fun K hK => ?a114) (AllReadyH.cons rfl (fun K hK => ?a214) AllReadyH.nil))
              case a114 =>
                rw [if_pos (by kernel_rfl)]
                refine wp_alloc_blkG 42 9 (by kernel_rfl) (by kernel_rfl) _ zero16 ?_
                intro g1 w1 hg1 b1 hbx
                have hsz := hbx.size
                have hzz := hHeld.size
                have hl1 := b1.lt
                refine hK.out _ _ (hHeld.trans (hbx.mono hHeld.size)) (fun hHeld => ?_)
                clear hK K hbx
                try simp only [Act.put, List.setIfInBounds_toArray, List.set_cons_zero, List.set_cons_succ]
                refine wpAnyH_ready (rs := [7]) (by kernel_rfl) (by simp) (AllReadyH.cons rfl (fun K hK => ?a216) AllReadyH.nil)
                case a216 =>
                  rw [if_pos (by kernel_rfl)]
                  refine wp_alloc_blkG 42 10 (by kernel_rfl) (by kernel_rfl) _ zero16 ?_
                  intro g2 w2 hg2 b2 hbx
                  have hsz := hbx.size
                  have hzz := hHeld.size
                  replace b1 := b1.below hbx (by omega)
                  have hl1 := b1.lt
                  have hl2 := b2.lt
                  refine hK.out _ _ (hHeld.trans (hbx.mono hHeld.size)) (fun hHeld => ?_)
                  clear hK K hbx
                  try simp only [Act.put, List.setIfInBounds_toArray, List.set_cons_zero, List.set_cons_succ]
                  refine wpAnyH_ready (rs := [8]) (by kernel_rfl) (by simp) (AllReadyH.cons rfl (fun K hK => ?s18) AllReadyH.nil)
                  case s18 =>
                    rw [if_pos (by kernel_rfl)]
                    refine wp_store_blkD 42 (.tmp 9) (.tmp 43) (by kernel_rfl) (by kernel_rfl) g1 0 (u8s U) (by kernel_rfl) (by kernel_rfl) _ _ b1 HEU.out HSU.out (u8s_one _) ?_
                    intro w8 b8 hg8 hs8
                    rw [HLU.out] at b8
                    replace b2 := b2.grown hg8 (by simp <;> omega)
                    refine hK.out _ _ (hHeld.grown hg8 hHeld.size (by intro k hk; simp at hk; omega)) (fun hHeld => ?_)
                    clear hK K
                    try simp only [Act.put, List.setIfInBounds_toArray, List.set_cons_zero, List.set_cons_succ]
                    refine wpAnyH_ready (rs := [9]) (by kernel_rfl) (by simp) (AllReadyH.cons rfl (fun K hK => ?t18) AllReadyH.nil)
                    case t18 =>
                      rw [if_pos (by kernel_rfl)]
                      refine wp_store_blkD 42 (.tmp 10) (.tmp 46) (by kernel_rfl) (by kernel_rfl) g2 0 (u8s V) (by kernel_rfl) (by kernel_rfl) _ _ b2 HEV.out HSV.out (u8s_one _) ?_
                      intro w9 b9 hg9 hs9
                      rw [HLV.out] at b9
                      replace b8 := b8.grown hg9 (by simp <;> omega)
                      refine hK.out _ _ (hHeld.grown hg9 hHeld.size (by intro k hk; simp at hk; omega)) (fun hHeld => ?_)
                      clear hK K
                      try simp only [Act.put, List.setIfInBounds_toArray, List.set_cons_zero, List.set_cons_succ]
                      refine wpAnyH_done (by kernel_rfl) ?_ _
                      go_wp2_with fail
                      go_meet
                      exact ⟨g1, g2, rfl, rfl, b8, b9, hHeld⟩
              case a214 =>
                rw [if_pos (by kernel_rfl)]
                refine wp_alloc_blkG 42 10 (by kernel_rfl) (by kernel_rfl) _ zero16 ?_
                intro g2 w2 hg2 b2 hbx
                have hsz := hbx.size
                have hzz := hHeld.size
                have hl2 := b2.lt
                refine hK.out _ _ (hHeld.trans (hbx.mono hHeld.size)) (fun hHeld => ?_)
                clear hK K hbx
                try simp only [Act.put, List.setIfInBounds_toArray, List.set_cons_zero, List.set_cons_succ]
                refine wpAnyH_ready (rs := [6]) (by kernel_rfl) (by simp) (AllReadyH.cons rfl (fun K hK => ?a116) AllReadyH.nil)
                case a116 =>
                  rw [if_pos (by kernel_rfl)]
                  refine wp_alloc_blkG 42 9 (by kernel_rfl) (by kernel_rfl) _ zero16 ?_
                  intro g1 w1 hg1 b1 hbx
                  have hsz := hbx.size
                  have hzz := hHeld.size
                  replace b2 := b2.below hbx (by omega)
                  have hl2 := b2.lt
                  have hl1 := b1.lt
                  refine hK.out _ _ (hHeld.trans (hbx.mono hHeld.size)) (fun hHeld => ?_)
                  clear hK K hbx
                  try simp only [Act.put, List.setIfInBounds_toArray, List.set_cons_zero, List.set_cons_succ]
                  refine wpAnyH_ready (rs := [8]) (by kernel_rfl) (by simp) (AllReadyH.cons rfl (fun K hK => ?s18) AllReadyH.nil)
                  case s18 =>
                    rw [if_pos (by kernel_rfl)]
                    refine wp_store_blkD 42 (.tmp 9) (.tmp 43) (by kernel_rfl) (by kernel_rfl) g1 0 (u8s U) (by kernel_rfl) (by kernel_rfl) _ _ b1 HEU.out HSU.out (u8s_one _) ?_
                    intro w8 b8 hg8 hs8
                    rw [HLU.out] at b8
                    replace b2 := b2.grown hg8 (by simp <;> omega)
                    refine hK.out _ _ (hHeld.grown hg8 hHeld.size (by intro k hk; simp at hk; omega)) (fun hHeld => ?_)
                    clear hK K
                    try simp only [Act.put, List.setIfInBounds_toArray, List.set_cons_zero, List.set_cons_succ]
                    refine wpAnyH_ready (rs := [9]) (by kernel_rfl) (by simp) (AllReadyH.cons rfl (fun K hK => ?t18) AllReadyH.nil)
                    case t18 =>
                      rw [if_pos (by kernel_rfl)]
                      refine wp_store_blkD 42 (.tmp 10) (.tmp 46) (by kernel_rfl) (by kernel_rfl) g2 0 (u8s V) (by kernel_rfl) (by kernel_rfl) _ _ b2 HEV.out HSV.out (u8s_one _) ?_
                      intro w9 b9 hg9 hs9
                      rw [HLV.out] at b9
                      replace b8 := b8.grown hg9 (by simp <;> omega)
                      refine hK.out _ _ (hHeld.grown hg9 hHeld.size (by intro k hk; simp at hk; omega)) (fun hHeld => ?_)
                      clear hK K
                      try simp only [Act.put, List.setIfInBounds_toArray, List.set_cons_zero, List.set_cons_succ]
                      refine wpAnyH_done (by kernel_rfl) ?_ _
                      go_wp2_with fail
                      go_meet
                      exact ⟨g1, g2, rfl, rfl, b8, b9, hHeld⟩
            case a112 =>
              rw [if_pos (by kernel_rfl)]
              refine wp_alloc_blkG 42 9 (by kernel_rfl) (by kernel_rfl) _ zero16 ?_
              intro g1 w1 hg1 b1 hbx
              have hsz := hbx.size
              have hzz := hHeld.size
              have hl1 := b1.lt
              refine hK.out _ _ (hHeld.trans (hbx.mono hHeld.size)) (fun hHeld => ?_)
              clear hK K hbx
              try simp only [Act.put, List.setIfInBounds_toArray, List.set_cons_zero, List.set_cons_succ]
              refine wpAnyH_ready (rs := [5, 7]) (by kernel_rfl) (by simp) (AllReadyH.cons rfl (fun K hK => ?c214) (AllReadyH.cons rfl (fun K hK => ?a214) AllReadyH.nil))
              case c214 =>
                rw [if_pos (by kernel_rfl)]
                go_simp
                refine (V0.out _).mono ?_
                rintro e wx2 ⟨rfl, hbx⟩
                go_simp
                have hsz := hbx.size
                have hzz := hHeld.size
                replace b1 := b1.below hbx (by omega)
                have hl1 := b1.lt
                refine hK.out _ _ (hHeld.trans (hbx.mono hHeld.size)) (fun hHeld => ?_)
                clear hK K hbx
                try simp only [Act.put, List.setIfInBounds_toArray, List.set_cons_zero, List.set_cons_succ]
                refine wpAnyH_ready (rs := [7]) (by kernel_rfl) (by simp) (AllReadyH.cons rfl (fun K hK => ?a216) AllReadyH.nil)
                case a216 =>
                  rw [if_pos (by kernel_rfl)]
                  refine wp_alloc_blkG 42 10 (by kernel_rfl) (by kernel_rfl) _ zero16 ?_
                  intro g2 w2 hg2 b2 hbx
                  have hsz := hbx.size
                  have hzz := hHeld.size
                  replace b1 := b1.below hbx (by omega)
                  have hl1 := b1.lt
                  have hl2 := b2.lt
                  refine hK.out _ _ (hHeld.trans (hbx.mono hHeld.size)) (fun hHeld => ?_)
                  clear hK K hbx
                  try simp only [Act.put, List.setIfInBounds_toArray, List.set_cons_zero, List.set_cons_succ]
                  refine wpAnyH_ready (rs := [8]) (by kernel_rfl) (by simp) (AllReadyH.cons rfl (fun K hK => ?s18) AllReadyH.nil)
                  case s18 =>
                    rw [if_pos (by kernel_rfl)]
                    refine wp_store_blkD 42 (.tmp 9) (.tmp 43) (by kernel_rfl) (by kernel_rfl) g1 0 (u8s U) (by kernel_rfl) (by kernel_rfl) _ _ b1 HEU.out HSU.out (u8s_one _) ?_
                    intro w8 b8 hg8 hs8
                    rw [HLU.out] at b8
                    replace b2 := b2.grown hg8 (by simp <;> omega)
                    refine hK.out _ _ (hHeld.grown hg8 hHeld.size (by intro k hk; simp at hk; omega)) (fun hHeld => ?_)
                    clear hK K
                    try simp only [Act.put, List.setIfInBounds_toArray, List.set_cons_zero, List.set_cons_succ]
                    refine wpAnyH_ready (rs := [9]) (by kernel_rfl) (by simp) (AllReadyH.cons rfl (fun K hK => ?t18) AllReadyH.nil)
                    case t18 =>
                      rw [if_pos (by kernel_rfl)]
                      refine wp_store_blkD 42 (.tmp 10) (.tmp 46) (by kernel_rfl) (by kernel_rfl) g2 0 (u8s V) (by kernel_rfl) (by kernel_rfl) _ _ b2 HEV.out HSV.out (u8s_one _) ?_
                      intro w9 b9 hg9 hs9
                      rw [HLV.out] at b9
                      replace b8 := b8.grown hg9 (by simp <;> omega)
                      refine hK.out _ _ (hHeld.grown hg9 hHeld.size (by intro k hk; simp at hk; omega)) (fun hHeld => ?_)
                      clear hK K
                      try simp only [Act.put, List.setIfInBounds_toArray, List.set_cons_zero, List.set_cons_succ]
                      refine wpAnyH_done (by kernel_rfl) ?_ _
                      go_wp2_with fail
                      go_meet
                      exact ⟨g1, g2, rfl, rfl, b8, b9, hHeld⟩
              case a214 =>
                rw [if_pos (by kernel_rfl)]
                refine wp_alloc_blkG 42 10 (by kernel_rfl) (by kernel_rfl) _ zero16 ?_
                intro g2 w2 hg2 b2 hbx
                have hsz := hbx.size
                have hzz := hHeld.size
                replace b1 := b1.below hbx (by omega)
                have hl1 := b1.lt
                have hl2 := b2.lt
                refine hK.out _ _ (hHeld.trans (hbx.mono hHeld.size)) (fun hHeld => ?_)
                clear hK K hbx
                try simp only [Act.put, List.setIfInBounds_toArray, List.set_cons_zero, List.set_cons_succ]
                refine wpAnyH_ready (rs := [5]) (by kernel_rfl) (by simp) (AllReadyH.cons rfl (fun K hK => ?c216) AllReadyH.nil)
                case c216 =>
                  rw [if_pos (by kernel_rfl)]
                  go_simp
                  refine (V0.out _).mono ?_
                  rintro e wx2 ⟨rfl, hbx⟩
                  go_simp
                  have hsz := hbx.size
                  have hzz := hHeld.size
                  replace b1 := b1.below hbx (by omega)
                  replace b2 := b2.below hbx (by omega)
                  have hl1 := b1.lt
                  have hl2 := b2.lt
                  refine hK.out _ _ (hHeld.trans (hbx.mono hHeld.size)) (fun hHeld => ?_)
                  clear hK K hbx
                  try simp only [Act.put, List.setIfInBounds_toArray, List.set_cons_zero, List.set_cons_succ]
                  refine wpAnyH_ready (rs := [8]) (by kernel_rfl) (by simp) (AllReadyH.cons rfl (fun K hK => ?s18) AllReadyH.nil)
                  case s18 =>
                    rw [if_pos (by kernel_rfl)]
                    refine wp_store_blkD 42 (.tmp 9) (.tmp 43) (by kernel_rfl) (by kernel_rfl) g1 0 (u8s U) (by kernel_rfl) (by kernel_rfl) _ _ b1 HEU.out HSU.out (u8s_one _) ?_
                    intro w8 b8 hg8 hs8
                    rw [HLU.out] at b8
                    replace b2 := b2.grown hg8 (by simp <;> omega)
                    refine hK.out _ _ (hHeld.grown hg8 hHeld.size (by intro k hk; simp at hk; omega)) (fun hHeld => ?_)
                    clear hK K
                    try simp only [Act.put, List.setIfInBounds_toArray, List.set_cons_zero, List.set_cons_succ]
                    refine wpAnyH_ready (rs := [9]) (by kernel_rfl) (by simp) (AllReadyH.cons rfl (fun K hK => ?t18) AllReadyH.nil)
                    case t18 =>
                      rw [if_pos (by kernel_rfl)]
                      refine wp_store_blkD 42 (.tmp 10) (.tmp 46) (by kernel_rfl) (by kernel_rfl) g2 0 (u8s V) (by kernel_rfl) (by kernel_rfl) _ _ b2 HEV.out HSV.out (u8s_one _) ?_
                      intro w9 b9 hg9 hs9
                      rw [HLV.out] at b9
                      replace b8 := b8.grown hg9 (by simp <;> omega)
                      refine hK.out _ _ (hHeld.grown hg9 hHeld.size (by intro k hk; simp at hk; omega)) (fun hHeld => ?_)
                      clear hK K
                      try simp only [Act.put, List.setIfInBounds_toArray, List.set_cons_zero, List.set_cons_succ]
                      refine wpAnyH_done (by kernel_rfl) ?_ _
                      go_wp2_with fail
                      go_meet
                      exact ⟨g1, g2, rfl, rfl, b8, b9, hHeld⟩
            case a212 =>
              rw [if_pos (by kernel_rfl)]
              refine wp_alloc_blkG 42 10 (by kernel_rfl) (by kernel_rfl) _ zero16 ?_
              intro g2 w2 hg2 b2 hbx
              have hsz := hbx.size
              have hzz := hHeld.size
              have hl2 := b2.lt
              refine hK.out _ _ (hHeld.trans (hbx.mono hHeld.size)) (fun hHeld => ?_)
              clear hK K hbx
              try simp only [Act.put, List.setIfInBounds_toArray, List.set_cons_zero, List.set_cons_succ]
              refine wpAnyH_ready (rs := [5, 6]) (by kernel_rfl) (by simp) (AllReadyH.cons rfl (fun K hK => ?c214) (AllReadyH.cons rfl (fun K hK => ?a114) AllReadyH.nil))
              case c214 =>
                rw [if_pos (by kernel_rfl)]
                go_simp
                refine (V0.out _).mono ?_
                rintro e wx2 ⟨rfl, hbx⟩
                go_simp
                have hsz := hbx.size
                have hzz := hHeld.size
                replace b2 := b2.below hbx (by omega)
                have hl2 := b2.lt
                refine hK.out _ _ (hHeld.trans (hbx.mono hHeld.size)) (fun hHeld => ?_)
                clear hK K hbx
                try simp only [Act.put, List.setIfInBounds_toArray, List.set_cons_zero, List.set_cons_succ]
                refine wpAnyH_ready (rs := [6]) (by kernel_rfl) (by simp) (AllReadyH.cons rfl (fun K hK => ?a116) AllReadyH.nil)
                case a116 =>
                  rw [if_pos (by kernel_rfl)]
                  refine wp_alloc_blkG 42 9 (by kernel_rfl) (by kernel_rfl) _ zero16 ?_
                  intro g1 w1 hg1 b1 hbx
                  have hsz := hbx.size
                  have hzz := hHeld.size
                  replace b2 := b2.below hbx (by omega)
                  have hl2 := b2.lt
                  have hl1 := b1.lt
                  refine hK.out _ _ (hHeld.trans (hbx.mono hHeld.size)) (fun hHeld => ?_)
                  clear hK K hbx
                  try simp only [Act.put, List.setIfInBounds_toArray, List.set_cons_zero, List.set_cons_succ]
                  refine wpAnyH_ready (rs := [8]) (by kernel_rfl) (by simp) (AllReadyH.cons rfl (fun K hK => ?s18) AllReadyH.nil)
                  case s18 =>
                    rw [if_pos (by kernel_rfl)]
                    refine wp_store_blkD 42 (.tmp 9) (.tmp 43) (by kernel_rfl) (by kernel_rfl) g1 0 (u8s U) (by kernel_rfl) (by kernel_rfl) _ _ b1 HEU.out HSU.out (u8s_one _) ?_
                    intro w8 b8 hg8 hs8
                    rw [HLU.out] at b8
                    replace b2 := b2.grown hg8 (by simp <;> omega)
                    refine hK.out _ _ (hHeld.grown hg8 hHeld.size (by intro k hk; simp at hk; omega)) (fun hHeld => ?_)
                    clear hK K
                    try simp only [Act.put, List.setIfInBounds_toArray, List.set_cons_zero, List.set_cons_succ]
                    refine wpAnyH_ready (rs := [9]) (by kernel_rfl) (by simp) (AllReadyH.cons rfl (fun K hK => ?t18) AllReadyH.nil)
                    case t18 =>
                      rw [if_pos (by kernel_rfl)]
                      refine wp_store_blkD 42 (.tmp 10) (.tmp 46) (by kernel_rfl) (by kernel_rfl) g2 0 (u8s V) (by kernel_rfl) (by kernel_rfl) _ _ b2 HEV.out HSV.out (u8s_one _) ?_
                      intro w9 b9 hg9 hs9
                      rw [HLV.out] at b9
                      replace b8 := b8.grown hg9 (by simp <;> omega)
                      refine hK.out _ _ (hHeld.grown hg9 hHeld.size (by intro k hk; simp at hk; omega)) (fun hHeld => ?_)
                      clear hK K
                      try simp only [Act.put, List.setIfInBounds_toArray, List.set_cons_zero, List.set_cons_succ]
                      refine wpAnyH_done (by kernel_rfl) ?_ _
                      go_wp2_with fail
                      go_meet
                      exact ⟨g1, g2, rfl, rfl, b8, b9, hHeld⟩
              case a114 =>
                rw [if_pos (by kernel_rfl)]
                refine wp_alloc_blkG 42 9 (by kernel_rfl) (by kernel_rfl) _ zero16 ?_
                intro g1 w1 hg1 b1 hbx
                have hsz := hbx.size
                have hzz := hHeld.size
                replace b2 := b2.below hbx (by omega)
                have hl2 := b2.lt
                have hl1 := b1.lt
                refine hK.out _ _ (hHeld.trans (hbx.mono hHeld.size)) (fun hHeld => ?_)
                clear hK K hbx
                try simp only [Act.put, List.setIfInBounds_toArray, List.set_cons_zero, List.set_cons_succ]
                refine wpAnyH_ready (rs := [5]) (by kernel_rfl) (by simp) (AllReadyH.cons rfl (fun K hK => ?c216) AllReadyH.nil)
                case c216 =>
                  rw [if_pos (by kernel_rfl)]
                  go_simp
                  refine (V0.out _).mono ?_
                  rintro e wx2 ⟨rfl, hbx⟩
                  go_simp
                  have hsz := hbx.size
                  have hzz := hHeld.size
                  replace b2 := b2.below hbx (by omega)
                  replace b1 := b1.below hbx (by omega)
                  have hl2 := b2.lt
                  have hl1 := b1.lt
                  refine hK.out _ _ (hHeld.trans (hbx.mono hHeld.size)) (fun hHeld => ?_)
                  clear hK K hbx
                  try simp only [Act.put, List.setIfInBounds_toArray, List.set_cons_zero, List.set_cons_succ]
                  refine wpAnyH_ready (rs := [8]) (by kernel_rfl) (by simp) (AllReadyH.cons rfl (fun K hK => ?s18) AllReadyH.nil)
                  case s18 =>
                    rw [if_pos (by kernel_rfl)]
                    refine wp_store_blkD 42 (.tmp 9) (.tmp 43) (by kernel_rfl) (by kernel_rfl) g1 0 (u8s U) (by kernel_rfl) (by kernel_rfl) _ _ b1 HEU.out HSU.out (u8s_one _) ?_
                    intro w8 b8 hg8 hs8
                    rw [HLU.out] at b8
                    replace b2 := b2.grown hg8 (by simp <;> omega)
                    refine hK.out _ _ (hHeld.grown hg8 hHeld.size (by intro k hk; simp at hk; omega)) (fun hHeld => ?_)
                    clear hK K
                    try simp only [Act.put, List.setIfInBounds_toArray, List.set_cons_zero, List.set_cons_succ]
                    refine wpAnyH_ready (rs := [9]) (by kernel_rfl) (by simp) (AllReadyH.cons rfl (fun K hK => ?t18) AllReadyH.nil)
                    case t18 =>
                      rw [if_pos (by kernel_rfl)]
                      refine wp_store_blkD 42 (.tmp 10) (.tmp 46) (by kernel_rfl) (by kernel_rfl) g2 0 (u8s V) (by kernel_rfl) (by kernel_rfl) _ _ b2 HEV.out HSV.out (u8s_one _) ?_
                      intro w9 b9 hg9 hs9
                      rw [HLV.out] at b9
                      replace b8 := b8.grown hg9 (by simp <;> omega)
                      refine hK.out _ _ (hHeld.grown hg9 hHeld.size (by intro k hk; simp at hk; omega)) (fun hHeld => ?_)
                      clear hK K
                      try simp only [Act.put, List.setIfInBounds_toArray, List.set_cons_zero, List.set_cons_succ]
                      refine wpAnyH_done (by kernel_rfl) ?_ _
                      go_wp2_with fail
                      go_meet
                      exact ⟨g1, g2, rfl, rfl, b8, b9, hHeld⟩
          case a110 =>
            rw [if_pos (by kernel_rfl)]
            refine wp_alloc_blkG 42 9 (by kernel_rfl) (by kernel_rfl) _ zero16 ?_
            intro g1 w1 hg1 b1 hbx
            have hsz := hbx.size
            have hzz := hHeld.size
            have hl1 := b1.lt
            refine hK.out _ _ (hHeld.trans (hbx.mono hHeld.size)) (fun hHeld => ?_)
            clear hK K hbx
            try simp only [Act.put, List.setIfInBounds_toArray, List.set_cons_zero, List.set_cons_succ]
            refine wpAnyH_ready (rs := [2, 7]) (by kernel_rfl) (by simp) (AllReadyH.cons rfl (fun K hK => ?c112) (AllReadyH.cons rfl (fun K hK => ?a212) AllReadyH.nil))
            case c112 =>
              rw [if_pos (by kernel_rfl)]
              go_simp
              refine (U0.out _).mono ?_
              rintro e wx1 ⟨rfl, hbx⟩
              go_simp
              have hsz := hbx.size
              have hzz := hHeld.size
              replace b1 := b1.below hbx (by omega)
              have hl1 := b1.lt
              refine hK.out _ _ (hHeld.trans (hbx.mono hHeld.size)) (fun hHeld => ?_)
              clear hK K hbx
              try simp only [Act.put, List.setIfInBounds_toArray, List.set_cons_zero, List.set_cons_succ]
              refine wpAnyH_ready (rs := [5, 7]) (by kernel_rfl) (by simp) (AllReadyH.cons rfl (fun K hK => ?c214) (AllReadyH.cons rfl (fun K hK => ?a214) AllReadyH.nil))
              case c214 =>
                rw [if_pos (by kernel_rfl)]
                go_simp
                refine (V0.out _).mono ?_
                rintro e wx2 ⟨rfl, hbx⟩
                go_simp
                have hsz := hbx.size
                have hzz := hHeld.size
                replace b1 := b1.below hbx (by omega)
                have hl1 := b1.lt
                refine hK.out _ _ (hHeld.trans (hbx.mono hHeld.size)) (fun hHeld => ?_)
                clear hK K hbx
                try simp only [Act.put, List.setIfInBounds_toArray, List.set_cons_zero, List.set_cons_succ]
                refine wpAnyH_ready (rs := [7]) (by kernel_rfl) (by simp) (AllReadyH.cons rfl (fun K hK => ?a216) AllReadyH.nil)
                case a216 =>
                  rw [if_pos (by kernel_rfl)]
                  refine wp_alloc_blkG 42 10 (by kernel_rfl) (by kernel_rfl) _ zero16 ?_
                  intro g2 w2 hg2 b2 hbx
                  have hsz := hbx.size
                  have hzz := hHeld.size
                  replace b1 := b1.below hbx (by omega)
                  have hl1 := b1.lt
                  have hl2 := b2.lt
                  refine hK.out _ _ (hHeld.trans (hbx.mono hHeld.size)) (fun hHeld => ?_)
                  clear hK K hbx
                  try simp only [Act.put, List.setIfInBounds_toArray, List.set_cons_zero, List.set_cons_succ]
                  refine wpAnyH_ready (rs := [8]) (by kernel_rfl) (by simp) (AllReadyH.cons rfl (fun K hK => ?s18) AllReadyH.nil)
                  case s18 =>
                    rw [if_pos (by kernel_rfl)]
                    refine wp_store_blkD 42 (.tmp 9) (.tmp 43) (by kernel_rfl) (by kernel_rfl) g1 0 (u8s U) (by kernel_rfl) (by kernel_rfl) _ _ b1 HEU.out HSU.out (u8s_one _) ?_
                    intro w8 b8 hg8 hs8
                    rw [HLU.out] at b8
                    replace b2 := b2.grown hg8 (by simp <;> omega)
                    refine hK.out _ _ (hHeld.grown hg8 hHeld.size (by intro k hk; simp at hk; omega)) (fun hHeld => ?_)
                    clear hK K
                    try simp only [Act.put, List.setIfInBounds_toArray, List.set_cons_zero, List.set_cons_succ]
                    refine wpAnyH_ready (rs := [9]) (by kernel_rfl) (by simp) (AllReadyH.cons rfl (fun K hK => ?t18) AllReadyH.nil)
                    case t18 =>
                      rw [if_pos (by kernel_rfl)]
                      refine wp_store_blkD 42 (.tmp 10) (.tmp 46) (by kernel_rfl) (by kernel_rfl) g2 0 (u8s V) (by kernel_rfl) (by kernel_rfl) _ _ b2 HEV.out HSV.out (u8s_one _) ?_
                      intro w9 b9 hg9 hs9
                      rw [HLV.out] at b9
                      replace b8 := b8.grown hg9 (by simp <;> omega)
                      refine hK.out _ _ (hHeld.grown hg9 hHeld.size (by intro k hk; simp at hk; omega)) (fun hHeld => ?_)
                      clear hK K
                      try simp only [Act.put, List.setIfInBounds_toArray, List.set_cons_zero, List.set_cons_succ]
                      refine wpAnyH_done (by kernel_rfl) ?_ _
                      go_wp2_with fail
                      go_meet
                      exact ⟨g1, g2, rfl, rfl, b8, b9, hHeld⟩
              case a214 =>
                rw [if_pos (by kernel_rfl)]
                refine wp_alloc_blkG 42 10 (by kernel_rfl) (by kernel_rfl) _ zero16 ?_
                intro g2 w2 hg2 b2 hbx
                have hsz := hbx.size
                have hzz := hHeld.size
                replace b1 := b1.below hbx (by omega)
                have hl1 := b1.lt
                have hl2 := b2.lt
                refine hK.out _ _ (hHeld.trans (hbx.mono hHeld.size)) (fun hHeld => ?_)
                clear hK K hbx
                try simp only [Act.put, List.setIfInBounds_toArray, List.set_cons_zero, List.set_cons_succ]
                refine wpAnyH_ready (rs := [5]) (by kernel_rfl) (by simp) (AllReadyH.cons rfl (fun K hK => ?c216) AllReadyH.nil)
                case c216 =>
                  rw [if_pos (by kernel_rfl)]
                  go_simp
                  refine (V0.out _).mono ?_
                  rintro e wx2 ⟨rfl, hbx⟩
                  go_simp
                  have hsz := hbx.size
                  have hzz := hHeld.size
                  replace b1 := b1.below hbx (by omega)
                  replace b2 := b2.below hbx (by omega)
                  have hl1 := b1.lt
                  have hl2 := b2.lt
                  refine hK.out _ _ (hHeld.trans (hbx.mono hHeld.size)) (fun hHeld => ?_)
                  clear hK K hbx
                  try simp only [Act.put, List.setIfInBounds_toArray, List.set_cons_zero, List.set_cons_succ]
                  refine wpAnyH_ready (rs := [8]) (by kernel_rfl) (by simp) (AllReadyH.cons rfl (fun K hK => ?s18) AllReadyH.nil)
                  case s18 =>
                    rw [if_pos (by kernel_rfl)]
                    refine wp_store_blkD 42 (.tmp 9) (.tmp 43) (by kernel_rfl) (by kernel_rfl) g1 0 (u8s U) (by kernel_rfl) (by kernel_rfl) _ _ b1 HEU.out HSU.out (u8s_one _) ?_
                    intro w8 b8 hg8 hs8
                    rw [HLU.out] at b8
                    replace b2 := b2.grown hg8 (by simp <;> omega)
                    refine hK.out _ _ (hHeld.grown hg8 hHeld.size (by intro k hk; simp at hk; omega)) (fun hHeld => ?_)
                    clear hK K
                    try simp only [Act.put, List.setIfInBounds_toArray, List.set_cons_zero, List.set_cons_succ]
                    refine wpAnyH_ready (rs := [9]) (by kernel_rfl) (by simp) (AllReadyH.cons rfl (fun K hK => ?t18) AllReadyH.nil)
                    case t18 =>
                      rw [if_pos (by kernel_rfl)]
                      refine wp_store_blkD 42 (.tmp 10) (.tmp 46) (by kernel_rfl) (by kernel_rfl) g2 0 (u8s V) (by kernel_rfl) (by kernel_rfl) _ _ b2 HEV.out HSV.out (u8s_one _) ?_
                      intro w9 b9 hg9 hs9
                      rw [HLV.out] at b9
                      replace b8 := b8.grown hg9 (by simp <;> omega)
                      refine hK.out _ _ (hHeld.grown hg9 hHeld.size (by intro k hk; simp at hk; omega)) (fun hHeld => ?_)
                      clear hK K
                      try simp only [Act.put, List.setIfInBounds_toArray, List.set_cons_zero, List.set_cons_succ]
                      refine wpAnyH_done (by kernel_rfl) ?_ _
                      go_wp2_with fail
                      go_meet
                      exact ⟨g1, g2, rfl, rfl, b8, b9, hHeld⟩
            case a212 =>
              rw [if_pos (by kernel_rfl)]
              refine wp_alloc_blkG 42 10 (by kernel_rfl) (by kernel_rfl) _ zero16 ?_
              intro g2 w2 hg2 b2 hbx
              have hsz := hbx.size
              have hzz := hHeld.size
              replace b1 := b1.below hbx (by omega)
              have hl1 := b1.lt
              have hl2 := b2.lt
              refine hK.out _ _ (hHeld.trans (hbx.mono hHeld.size)) (fun hHeld => ?_)
              clear hK K hbx
              try simp only [Act.put, List.setIfInBounds_toArray, List.set_cons_zero, List.set_cons_succ]
              refine wpAnyH_ready (rs := [2]) (by kernel_rfl) (by simp) (AllReadyH.cons rfl (fun K hK => ?c114) AllReadyH.nil)
              case c114 =>
                rw [if_pos (by kernel_rfl)]
                go_simp
                refine (U0.out _).mono ?_
                rintro e wx1 ⟨rfl, hbx⟩
                go_simp
                have hsz := hbx.size
                have hzz := hHeld.size
                replace b1 := b1.below hbx (by omega)
                replace b2 := b2.below hbx (by omega)
                have hl1 := b1.lt
                have hl2 := b2.lt
                refine hK.out _ _ (hHeld.trans (hbx.mono hHeld.size)) (fun hHeld => ?_)
                clear hK K hbx
                try simp only [Act.put, List.setIfInBounds_toArray, List.set_cons_zero, List.set_cons_succ]
                refine wpAnyH_ready (rs := [5]) (by kernel_rfl) (by simp) (AllReadyH.cons rfl (fun K hK => ?c216) AllReadyH.nil)
                case c216 =>
                  rw [if_pos (by kernel_rfl)]
                  go_simp
                  refine (V0.out _).mono ?_
                  rintro e wx2 ⟨rfl, hbx⟩
                  go_simp
                  have hsz := hbx.size
                  have hzz := hHeld.size
                  replace b1 := b1.below hbx (by omega)
                  replace b2 := b2.below hbx (by omega)
                  have hl1 := b1.lt
                  have hl2 := b2.lt
                  refine hK.out _ _ (hHeld.trans (hbx.mono hHeld.size)) (fun hHeld => ?_)
                  clear hK K hbx
                  try simp only [Act.put, List.setIfInBounds_toArray, List.set_cons_zero, List.set_cons_succ]
                  refine wpAnyH_ready (rs := [8]) (by kernel_rfl) (by simp) (AllReadyH.cons rfl (fun K hK => ?s18) AllReadyH.nil)
                  case s18 =>
                    rw [if_pos (by kernel_rfl)]
                    refine wp_store_blkD 42 (.tmp 9) (.tmp 43) (by kernel_rfl) (by kernel_rfl) g1 0 (u8s U) (by kernel_rfl) (by kernel_rfl) _ _ b1 HEU.out HSU.out (u8s_one _) ?_
                    intro w8 b8 hg8 hs8
                    rw [HLU.out] at b8
                    replace b2 := b2.grown hg8 (by simp <;> omega)
                    refine hK.out _ _ (hHeld.grown hg8 hHeld.size (by intro k hk; simp at hk; omega)) (fun hHeld => ?_)
                    clear hK K
                    try simp only [Act.put, List.setIfInBounds_toArray, List.set_cons_zero, List.set_cons_succ]
                    refine wpAnyH_ready (rs := [9]) (by kernel_rfl) (by simp) (AllReadyH.cons rfl (fun K hK => ?t18) AllReadyH.nil)
                    case t18 =>
                      rw [if_pos (by kernel_rfl)]
                      refine wp_store_blkD 42 (.tmp 10) (.tmp 46) (by kernel_rfl) (by kernel_rfl) g2 0 (u8s V) (by kernel_rfl) (by kernel_rfl) _ _ b2 HEV.out HSV.out (u8s_one _) ?_
                      intro w9 b9 hg9 hs9
                      rw [HLV.out] at b9
                      replace b8 := b8.grown hg9 (by simp <;> omega)
                      refine hK.out _ _ (hHeld.grown hg9 hHeld.size (by intro k hk; simp at hk; omega)) (fun hHeld => ?_)
                      clear hK K
                      try simp only [Act.put, List.setIfInBounds_toArray, List.set_cons_zero, List.set_cons_succ]
                      refine wpAnyH_done (by kernel_rfl) ?_ _
                      go_wp2_with fail
                      go_meet
                      exact ⟨g1, g2, rfl, rfl, b8, b9, hHeld⟩
          case a210 =>
            rw [if_pos (by kernel_rfl)]
            refine wp_alloc_blkG 42 10 (by kernel_rfl) (by kernel_rfl) _ zero16 ?_
            intro g2 w2 hg2 b2 hbx
            have hsz := hbx.size
            have hzz := hHeld.size
            have hl2 := b2.lt
            refine hK.out _ _ (hHeld.trans (hbx.mono hHeld.size)) (fun hHeld => ?_)
            clear hK K hbx
            try simp only [Act.put, List.setIfInBounds_toArray, List.set_cons_zero, List.set_cons_succ]
            refine wpAnyH_ready (rs := [2, 6]) (by kernel_rfl) (by simp) (AllReadyH.cons rfl (fun K hK => ?c112) (AllReadyH.cons rfl (fun K hK => ?a112) AllReadyH.nil))
            case c112 =>
              rw [if_pos (by kernel_rfl)]
              go_simp
              refine (U0.out _).mono ?_
              rintro e wx1 ⟨rfl, hbx⟩
              go_simp
              have hsz := hbx.size
              have hzz := hHeld.size
              replace b2 := b2.below hbx (by omega)
              have hl2 := b2.lt
              refine hK.out _ _ (hHeld.trans (hbx.mono hHeld.size)) (fun hHeld => ?_)
              clear hK K hbx
              try simp only [Act.put, List.setIfInBounds_toArray, List.set_cons_zero, List.set_cons_succ]
              refine wpAnyH_ready (rs := [5, 6]) (by kernel_rfl) (by simp) (AllReadyH.cons rfl (fun K hK => ?c214) (AllReadyH.cons rfl (fun K hK => ?a114) AllReadyH.nil))
              case c214 =>
                rw [if_pos (by kernel_rfl)]
                go_simp
                refine (V0.out _).mono ?_
                rintro e wx2 ⟨rfl, hbx⟩
                go_simp
                have hsz := hbx.size
                have hzz := hHeld.size
                replace b2 := b2.below hbx (by omega)
                have hl2 := b2.lt
                refine hK.out _ _ (hHeld.trans (hbx.mono hHeld.size)) (fun hHeld => ?_)
                clear hK K hbx
                try simp only [Act.put, List.setIfInBounds_toArray, List.set_cons_zero, List.set_cons_succ]
                refine wpAnyH_ready (rs := [6]) (by kernel_rfl) (by simp) (AllReadyH.cons rfl (fun K hK => ?a116) AllReadyH.nil)
                case a116 =>
                  rw [if_pos (by kernel_rfl)]
                  refine wp_alloc_blkG 42 9 (by kernel_rfl) (by kernel_rfl) _ zero16 ?_
                  intro g1 w1 hg1 b1 hbx
                  have hsz := hbx.size
                  have hzz := hHeld.size
                  replace b2 := b2.below hbx (by omega)
                  have hl2 := b2.lt
                  have hl1 := b1.lt
                  refine hK.out _ _ (hHeld.trans (hbx.mono hHeld.size)) (fun hHeld => ?_)
                  clear hK K hbx
                  try simp only [Act.put, List.setIfInBounds_toArray, List.set_cons_zero, List.set_cons_succ]
                  refine wpAnyH_ready (rs := [8]) (by kernel_rfl) (by simp) (AllReadyH.cons rfl (fun K hK => ?s18) AllReadyH.nil)
                  case s18 =>
                    rw [if_pos (by kernel_rfl)]
                    refine wp_store_blkD 42 (.tmp 9) (.tmp 43) (by kernel_rfl) (by kernel_rfl) g1 0 (u8s U) (by kernel_rfl) (by kernel_rfl) _ _ b1 HEU.out HSU.out (u8s_one _) ?_
                    intro w8 b8 hg8 hs8
                    rw [HLU.out] at b8
                    replace b2 := b2.grown hg8 (by simp <;> omega)
                    refine hK.out _ _ (hHeld.grown hg8 hHeld.size (by intro k hk; simp at hk; omega)) (fun hHeld => ?_)
                    clear hK K
                    try simp only [Act.put, List.setIfInBounds_toArray, List.set_cons_zero, List.set_cons_succ]
                    refine wpAnyH_ready (rs := [9]) (by kernel_rfl) (by simp) (AllReadyH.cons rfl (fun K hK => ?t18) AllReadyH.nil)
                    case t18 =>
                      rw [if_pos (by kernel_rfl)]
                      refine wp_store_blkD 42 (.tmp 10) (.tmp 46) (by kernel_rfl) (by kernel_rfl) g2 0 (u8s V) (by kernel_rfl) (by kernel_rfl) _ _ b2 HEV.out HSV.out (u8s_one _) ?_
                      intro w9 b9 hg9 hs9
                      rw [HLV.out] at b9
                      replace b8 := b8.grown hg9 (by simp <;> omega)
                      refine hK.out _ _ (hHeld.grown hg9 hHeld.size (by intro k hk; simp at hk; omega)) (fun hHeld => ?_)
                      clear hK K
                      try simp only [Act.put, List.setIfInBounds_toArray, List.set_cons_zero, List.set_cons_succ]
                      refine wpAnyH_done (by kernel_rfl) ?_ _
                      go_wp2_with fail
                      go_meet
                      exact ⟨g1, g2, rfl, rfl, b8, b9, hHeld⟩
              case a114 =>
                rw [if_pos (by kernel_rfl)]
                refine wp_alloc_blkG 42 9 (by kernel_rfl) (by kernel_rfl) _ zero16 ?_
                intro g1 w1 hg1 b1 hbx
                have hsz := hbx.size
                have hzz := hHeld.size
                replace b2 := b2.below hbx (by omega)
                have hl2 := b2.lt
                have hl1 := b1.lt
                refine hK.out _ _ (hHeld.trans (hbx.mono hHeld.size)) (fun hHeld => ?_)
                clear hK K hbx
                try simp only [Act.put, List.setIfInBounds_toArray, List.set_cons_zero, List.set_cons_succ]
                refine wpAnyH_ready (rs := [5]) (by kernel_rfl) (by simp) (AllReadyH.cons rfl (fun K hK => ?c216) AllReadyH.nil)
                case c216 =>
                  rw [if_pos (by kernel_rfl)]
                  go_simp
                  refine (V0.out _).mono ?_
                  rintro e wx2 ⟨rfl, hbx⟩
                  go_simp
                  have hsz := hbx.size
                  have hzz := hHeld.size
                  replace b2 := b2.below hbx (by omega)
                  replace b1 := b1.below hbx (by omega)
                  have hl2 := b2.lt
                  have hl1 := b1.lt
                  refine hK.out _ _ (hHeld.trans (hbx.mono hHeld.size)) (fun hHeld => ?_)
                  clear hK K hbx
                  try simp only [Act.put, List.setIfInBounds_toArray, List.set_cons_zero, List.set_cons_succ]
                  refine wpAnyH_ready (rs := [8]) (by kernel_rfl) (by simp) (AllReadyH.cons rfl (fun K hK => ?s18) AllReadyH.nil)
                  case s18 =>
                    rw [if_pos (by kernel_rfl)]
                    refine wp_store_blkD 42 (.tmp 9) (.tmp 43) (by kernel_rfl) (by kernel_rfl) g1 0 (u8s U) (by kernel_rfl) (by kernel_rfl) _ _ b1 HEU.out HSU.out (u8s_one _) ?_
                    intro w8 b8 hg8 hs8
                    rw [HLU.out] at b8
                    replace b2 := b2.grown hg8 (by simp <;> omega)
                    refine hK.out _ _ (hHeld.grown hg8 hHeld.size (by intro k hk; simp at hk; omega)) (fun hHeld => ?_)
                    clear hK K
                    try simp only [Act.put, List.setIfInBounds_toArray, List.set_cons_zero, List.set_cons_succ]
                    refine wpAnyH_ready (rs := [9]) (by kernel_rfl) (by simp) (AllReadyH.cons rfl (fun K hK => ?t18) AllReadyH.nil)
                    case t18 =>
                      rw [if_pos (by kernel_rfl)]
                      refine wp_store_blkD 42 (.tmp 10) (.tmp 46) (by kernel_rfl) (by kernel_rfl) g2 0 (u8s V) (by kernel_rfl) (by kernel_rfl) _ _ b2 HEV.out HSV.out (u8s_one _) ?_
                      intro w9 b9 hg9 hs9
                      rw [HLV.out] at b9
                      replace b8 := b8.grown hg9 (by simp <;> omega)
                      refine hK.out _ _ (hHeld.grown hg9 hHeld.size (by intro k hk; simp at hk; omega)) (fun hHeld => ?_)
                      clear hK K
                      try simp only [Act.put, List.setIfInBounds_toArray, List.set_cons_zero, List.set_cons_succ]
                      refine wpAnyH_done (by kernel_rfl) ?_ _
                      go_wp2_with fail
                      go_meet
                      exact ⟨g1, g2, rfl, rfl, b8, b9, hHeld⟩
            case a112 =>
              rw [if_pos (by kernel_rfl)]
              refine wp_alloc_blkG 42 9 (by kernel_rfl) (by kernel_rfl) _ zero16 ?_
              intro g1 w1 hg1 b1 hbx
              have hsz := hbx.size
              have hzz := hHeld.size
              replace b2 := b2.below hbx (by omega)
              have hl2 := b2.lt
              have hl1 := b1.lt
              refine hK.out _ _ (hHeld.trans (hbx.mono hHeld.size)) (fun hHeld => ?_)
              clear hK K hbx
              try simp only [Act.put, List.setIfInBounds_toArray, List.set_cons_zero, List.set_cons_succ]
              refine wpAnyH_ready (rs := [2]) (by kernel_rfl) (by simp) (AllReadyH.cons rfl (fun K hK => ?c114) AllReadyH.nil)
              case c114 =>
                rw [if_pos (by kernel_rfl)]
                go_simp
                refine (U0.out _).mono ?_
                rintro e wx1 ⟨rfl, hbx⟩
                go_simp
                have hsz := hbx.size
                have hzz := hHeld.size
                replace b2 := b2.below hbx (by omega)
                replace b1 := b1.below hbx (by omega)
                have hl2 := b2.lt
                have hl1 := b1.lt
                refine hK.out _ _ (hHeld.trans (hbx.mono hHeld.size)) (fun hHeld => ?_)
                clear hK K hbx
                try simp only [Act.put, List.setIfInBounds_toArray, List.set_cons_zero, List.set_cons_succ]
                refine wpAnyH_ready (rs := [5]) (by kernel_rfl) (by simp) (AllReadyH.cons rfl (fun K hK => ?c216) AllReadyH.nil)
                case c216 =>
                  rw [if_pos (by kernel_rfl)]
                  go_simp
                  refine (V0.out _).mono ?_
                  rintro e wx2 ⟨rfl, hbx⟩
                  go_simp
                  have hsz := hbx.size
                  have hzz := hHeld.size
                  replace b2 := b2.below hbx (by omega)
                  replace b1 := b1.below hbx (by omega)
                  have hl2 := b2.lt
                  have hl1 := b1.lt
                  refine hK.out _ _ (hHeld.trans (hbx.mono hHeld.size)) (fun hHeld => ?_)
                  clear hK K hbx
                  try simp only [Act.put, List.setIfInBounds_toArray, List.set_cons_zero, List.set_cons_succ]
                  refine wpAnyH_ready (rs := [8]) (by kernel_rfl) (by simp) (AllReadyH.cons rfl (fun K hK => ?s18) AllReadyH.nil)
                  case s18 =>
                    rw [if_pos (by kernel_rfl)]
                    refine wp_store_blkD 42 (.tmp 9) (.tmp 43) (by kernel_rfl) (by kernel_rfl) g1 0 (u8s U) (by kernel_rfl) (by kernel_rfl) _ _ b1 HEU.out HSU.out (u8s_one _) ?_
                    intro w8 b8 hg8 hs8
                    rw [HLU.out] at b8
                    replace b2 := b2.grown hg8 (by simp <;> omega)
                    refine hK.out _ _ (hHeld.grown hg8 hHeld.size (by intro k hk; simp at hk; omega)) (fun hHeld => ?_)
                    clear hK K
                    try simp only [Act.put, List.setIfInBounds_toArray, List.set_cons_zero, List.set_cons_succ]
                    refine wpAnyH_ready (rs := [9]) (by kernel_rfl) (by simp) (AllReadyH.cons rfl (fun K hK => ?t18) AllReadyH.nil)
                    case t18 =>
                      rw [if_pos (by kernel_rfl)]
                      refine wp_store_blkD 42 (.tmp 10) (.tmp 46) (by kernel_rfl) (by kernel_rfl) g2 0 (u8s V) (by kernel_rfl) (by kernel_rfl) _ _ b2 HEV.out HSV.out (u8s_one _) ?_
                      intro w9 b9 hg9 hs9
                      rw [HLV.out] at b9
                      replace b8 := b8.grown hg9 (by simp <;> omega)
                      refine hK.out _ _ (hHeld.grown hg9 hHeld.size (by intro k hk; simp at hk; omega)) (fun hHeld => ?_)
                      clear hK K
                      try simp only [Act.put, List.setIfInBounds_toArray, List.set_cons_zero, List.set_cons_succ]
                      refine wpAnyH_done (by kernel_rfl) ?_ _
                      go_wp2_with fail
                      go_meet
                      exact ⟨g1, g2, rfl, rfl, b8, b9, hHeld⟩
        case rest =>
          obtain ⟨g1, g2, rfl, rfl, b1, b2, hbel⟩ := hcut
          have HBX := hide (HBR.out.trans (hbel.mono (by have := HBR.out.size; omega)))
          have M1 := hide b1
          have M2 := hide b2
          have M5 := hide (K5W.out.below hbel (by have := K5W.out.lt; omega))
          have m1 := b1.lt
          have m2 := b2.lt
          have m5 := M5.out.lt
          have HZL := hide (show Z.length = 32 by rw [HZZ.out, List.length_append, HUL.out, HVL.out])
          clear b1 b2 hbel U0 V0 K5W BX1 BX2 BKW HBR
          go_wp2_with fail
          obtain ⟨wo, rfl⟩ : ∃ wo : World, wo = wc := ⟨_, rfl⟩
          refine wp_region_held_drew (S := fun w' => Below wo.heap.size wo w') (by kernel_rfl) (Below.refl _ _).drew (fun hHeld => ?_)
          refine take_d 47 (i := 0) (v := .slice (some ⟨g5, 0, none⟩) 32 32) rfl (by kernel_rfl) (by kernel_rfl) (by kernel_rfl) (by kernel_rfl) (fun _ _ _ h => h) (Or.inl ⟨by kernel_rfl, fun w' hS => by go_simp⟩) hHeld ?_
          refine take_d 48 (i := 1) (v := .slice (some ⟨g1, 0, none⟩) 16 16) rfl (by kernel_rfl) (by kernel_rfl) (by kernel_rfl) (by kernel_rfl) (fun _ _ _ h => h) (Or.inl ⟨by kernel_rfl, fun w' hS => by go_simp⟩) hHeld ?_
          refine take_d 49 (i := 2) (v := .slice (some ⟨g2, 0, none⟩) 16 16) rfl (by kernel_rfl) (by kernel_rfl) (by kernel_rfl) (by kernel_rfl) (fun _ _ _ h => h) (Or.inl ⟨by kernel_rfl, fun w' hS => by go_simp⟩) hHeld ?_
          simp only [Act.put, List.setIfInBounds_toArray, List.set_cons_zero, List.set_cons_succ]
          refine wpAnyH_ready (rs := [3]) (by kernel_rfl) (by simp) (AllReadyH.cons rfl (fun K hK => ?ap) AllReadyH.nil)
          case ap =>
          rw [if_pos (by kernel_rfl)]
          refine wp_append_fullD 50 (by kernel_rfl) (.tmp 48) (.tmp 49) (by kernel_rfl) ⟨g1, 0, none⟩ 16 U (by kernel_rfl) HUL.out (fun j u hj => by have := (M1.out.below hHeld m1).cell j; rw [hj] at this; rw [Addr.add_lit, Nat.zero_add]; exact this) ⟨g2, 0, none⟩ 16 16 V (by kernel_rfl) HVL.out (fun j u hj => by have := (M2.out.below hHeld m2).cell j; rw [hj] at this; rw [Addr.add_lit, Nat.zero_add]; exact this) (by omega) (by omega) ?_
          intro v50 w5 ho50 hg5 
          have HO50 := hide ho50
          have hzz := hHeld.size
          refine hK.out _ _ (hHeld.grown hg5 hHeld.size (by intro k hk; simp at hk)) (fun hHeld => ?_)
          clear hK K ho50 hg5
          simp only [Act.put, List.setIfInBounds_toArray, List.set_cons_zero, List.set_cons_succ]
          refine wpAnyH_ready (rs := [4]) (by kernel_rfl) (by simp) (AllReadyH.cons rfl (fun K hK => ?sa) AllReadyH.nil)
          case sa =>
          rw [if_pos (by kernel_rfl)]
          go_simp
          refine (same_bytes (.slice (some ⟨g5, 0, none⟩) 32 32) v50 Z (U ++ V) w5 w5.heap.size (by
            have h := (Own8.of_blk (base := g5) (M5.out.below hHeld m5) (Nat.le_refl _) (by rw [HZL.out]; decide)).reads
            rw [HZL.out] at h
            exact h) HO50.out.reads (Nat.le_refl _)).mono ?_
          rintro e w6 ⟨rfl, hb6⟩
          rw [decide_eq_true HZZ.out]
          go_simp
          refine hK.out _ _ (hHeld.trans (hb6.mono hHeld.size)) (fun hHeld => ?_)
          clear hK K hb6
          try simp only [Act.put, List.setIfInBounds_toArray, List.set_cons_zero, List.set_cons_succ]
          refine take_d 52 (i := 5) (v := .bool true) rfl (by kernel_rfl) (by kernel_rfl) (by kernel_rfl) (by kernel_rfl) (fun _ _ _ h => h) (Or.inl ⟨by kernel_rfl, fun w' hS => by go_simp⟩) hHeld ?_
          simp only [Act.put, List.setIfInBounds_toArray, List.set_cons_zero, List.set_cons_succ]
          refine wpAnyH_ready (rs := [6]) (by kernel_rfl) (by simp) (AllReadyH.cons rfl (fun K hK => ?wk) AllReadyH.nil)
          case wk =>
          rw [if_pos (by kernel_rfl)]
          go_simp
          refine (wakes03 _).mono ?_
          rintro e w7 ⟨rfl, hb7⟩
          go_simp
          refine hK.out _ _ (hHeld.trans (hb7.mono hHeld.size)) (fun hHeld => ?_)
          clear hK K hb7
          try simp only [Act.put, List.setIfInBounds_toArray, List.set_cons_zero, List.set_cons_succ]
          refine take_d 54 (i := 7) (v := .bool true) rfl (by kernel_rfl) (by kernel_rfl) (by kernel_rfl) (by kernel_rfl) (fun _ _ _ h => h) (Or.inl ⟨by kernel_rfl, fun w' hS => by go_simp⟩) hHeld ?_
          refine take_d 4 (i := 8) (v := .bool true) rfl (by kernel_rfl) (by kernel_rfl) (by kernel_rfl) (by kernel_rfl) (fun _ _ _ h => h) (Or.inl ⟨by kernel_rfl, fun w' hS => by go_simp⟩) hHeld ?_
          simp only [Act.put, List.setIfInBounds_toArray, List.set_cons_zero, List.set_cons_succ]
          refine wpAnyH_done (by kernel_rfl) ?_ _
          have HF := hide (HBX.out.trans (hHeld.mono HBX.out.size))
          clear hHeld
          go_wp2_with fail
          go_ret
          exact ⟨rfl, HF.out⟩

set_option maxRecDepth 100000 in
theorem lifted (os : Os) (started : os.Started) (H : Type) (enc : TypeId × Value → H) :
    ReturnsInHanded {} Try.checked os 13 .any (Rows.aesCountsSpec.pre6 enc Try.prog Try.f13 Rows.aesCountsRow.domain false) (Rows.aesCountsSpec.post enc Try.prog Try.f13 false true false false) := by
  refine returnsInHanded_of_change (C := Try.checked) own started (by kernel_rfl) Try.func13
    (ChangeSpec.witness6 (enc := enc) (C := Try.checked) false ⟨#[], #[.agg #[.int .u8 0, .int .u8 0, .int .u8 0, .int .u8 0, .int .u8 0, .int .u8 0, .int .u8 0, .int .u8 0, .int .u8 0, .int .u8 0, .int .u8 0, .int .u8 0, .int .u8 0, .int .u8 0, .int .u8 0, .int .u8 0], .int .i64 0], []⟩ 8 (by kernel_rfl) (by kernel_rfl) (by kernel_rfl) (by kernel_rfl)) ?_
  intro W base args ds gs before hval0 hW hcnd _
  have hval : ∀ (j : Nat) t v, Try.f13.params[j]? = some t → args[j]? = some v → Value.okWide Try.prog W .any base t v := hval0
  have hW' := hW
  obtain ⟨p, q, hA0, hV, rfl, hfz, hnd⟩ := hW
  have hA : DataW.TrodAll enc Try.prog W 0 (fun _ => true) true Try.f13.params.toList args.toList ds p := hA0
  rw [Try.params13] at hA hval
  obtain ⟨v0, vs0, d0, ds0, p0, q0, hargs, rfl, rfl, h0, r0⟩ := trodAll_cons hA
  obtain ⟨v1, vs1, d1, ds1, p1, q1, rfl, rfl, rfl, h1, r1⟩ := trodAll_cons r0
  obtain ⟨rfl, rfl, rfl⟩ := trodAll_nil r1
  obtain rfl : args = #[v0, v1] := by cases args; simp_all
  obtain ⟨rfl, rfl⟩ := trodVars_none hV
  have k0 := h0
  have lt0 : ∀ x ∈ p0, x.block < W.heap.size := by obtain ⟨m, hm⟩ := k0; exact DataW.trod_lt m _ _ _ hm
  obtain ⟨z0, rfl, w0, b0⟩ := read_arr16_key (hval 0 43 v0 rfl rfl) h0
  obtain ⟨a1, rfl, rfl, rfl, wf1⟩ := open_int Try.underlying3 (hval 1 3 v1 rfl rfl) h1
  clear hA0 hval0
  refine (walk W z0 w0 b0 a1 (in64_wf wf1)).mono fun e W' ⟨he, bel⟩ => ?_
  subst he
  exact ⟨_, rfl, _, _, _, [], _, [], hW', trodAll_mk1 (shut_bool Try.underlying4 _), (trodAll_cons_mk (Below.trod laidOut (by kernel_rfl) (of_decide_eq_true (by kernel_rfl)) k0 bel lt0) (trodAll_cons_mk (shut_int Try.underlying3 wf1) trodAll_mk0)), rfl, bel.frame _, fun h => by cases h⟩

theorem over : Rows.aesCountsRow.holds Try.pinned (OpenSpec.ofChange Rows.aesCountsSpec) :=
  OpenClaim.holds_of_wide 13 Try.f13 rfl rfl rfl rfl rfl rfl rfl ⟨rfl, rfl, rfl, rfl, rfl⟩ rfl rfl rfl rfl rfl (by kernel_rfl) Try.func13 (by kernel_rfl)
    (of_decide_eq_true (by kernel_rfl)) (by unfold Func.isWrapper; rw [if_neg (of_decide_eq_false (by kernel_rfl))]; exact ⟨rfl, rfl⟩)
    (fun os started H enc _ => lifted os started H enc)

theorem proved : Rows.AesCountsSaid := over
end Go.Proofs.Ytoicohcomjnnfaa.LawAesCounts
