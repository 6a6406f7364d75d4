/- A reader of rows: what is left, and whether there was a row that is none; its next row. Condition: at most 2^40 bytes.
A reader's numbers: of so many bytes, how many there are, a share's. Condition: at most 2^40 bytes.
A reader's blobs. Condition: at most 2^40 bytes. -/
import Derived.Test.YtfinfkodjkfibaaDoorBlobs
import Derived.Test.YtfinfkodjkfibaaDoorTake
import Derived.Test.YtfinfkodjkfibaaDoorGet
import Derived.Test.YtfinfkodjkfibaaDoorKeep
namespace Go.Proofs.YtfinfkodjkfibaaDoor
open Go Go.RowKit
set_option linter.unusedVariables false
set_option linter.unusedSimpArgs false
set_option maxRecDepth 100000

/-- A reader in block g. -/
def RdrAt (w : World) (g B0 : Nat) (s : Msg.St) : Prop := ∃ v, Blk w g 69 [v, .bool s.bad] ∧ (ElB w B0 v s.b ∧ B0 ≤ g) ∧ Bytes s.b ∧ s.b.length ≤ 1099511627776
theorem ElB.pastG {w w' : World} {B0 g : Nat} {u : Value} {xs : List Int} {t : TypeId} {cs : List Value} (h : ElB w B0 u xs) (hk : Blk w g t cs) (ht : t ≠ 5) (hgB : B0 ≤ g) (hg : w.grownBy w' (some g)) : ElB w' B0 u xs := by
  have hgl := hk.lt
  rcases h with h | h
  · exact .inl (h.below (B' := B0) ⟨hg.os, hg.tape, hg.output, hg.size, fun k hkb => hg.block k (by omega) (by intro e; injection e with e; omega)⟩ (Nat.le_refl _))
  · refine .inr (h.kept hg (.inr fun e => ?_))
    rcases h with ⟨rfl, rfl⟩ | ⟨g', cap, cur, f, rfl, _, hb, _⟩
    · cases e
    · simp [Value.ownBlock] at e
      subst e
      unfold BlkF at hb
      unfold Blk at hk
      rw [hk] at hb
      injection hb with hb
      injection hb with _ hb _
      exact ht hb
theorem Bs.past {w w' : World} {B g : Nat} {v : Value} {xs : List Int} {t : TypeId} {a b : Value} (h : Bs w B v xs) (hB : B ≤ w.heap.size) (hg : w.grownBy w' (some g)) (hk : Blk w g t [a, b]) (ha : ∀ n, a ≠ .int .u8 n) (hb : ∀ n, b ≠ .int .u8 n) : Bs w' B v xs := by
  obtain ⟨A, c, rfl, h1, h2, h3⟩ := h.open_
  obtain ⟨A', c', hv, g1, g2, g3, g4⟩ := h
  injection hv with e1 e2 e3
  subst e1 e3
  refine ⟨A, c, rfl, g1, g2, g3, fun hp => ?_⟩
  obtain ⟨k, o, rfl, hkB, hc⟩ := g4 hp
  refine ⟨k, o, rfl, hkB, fun j u hu => ?_⟩
  have hne : some k ≠ some g := by
    intro e
    injection e with e
    subst e
    have hlen : 0 < xs.length := hp
    have h0 := hc 0 (.int .u8 xs[0]) (by unfold u8s; rw [List.getElem?_map, List.getElem?_eq_getElem hlen]; rfl)
    rw [hk.cell] at h0
    rcases o with _ | _ | o
    · injection h0 with h0; exact ha _ h0
    · injection h0 with h0; exact hb _ h0
    · simp at h0
  have := hc j u hu
  rw [← this]
  exact World.cell?_of_block (hg.block k (by omega) hne)
theorem slice_no {A : Option Addr} {n c : Nat} : ∀ m, Value.slice A n c ≠ .int .u8 m := fun _ h => by cases h
theorem bool_no {b : Bool} : ∀ m, Value.bool b ≠ .int .u8 m := fun _ h => by cases h
set_option maxHeartbeats 4000000 in
theorem row_any (n : Int) (s : Msg.St) (w : World) (g B0 : Nat) (hR : RdrAt w g B0 s) (hn : -1000 ≤ n ∧ n ≤ 1000) :
    Calls Tryd.prog 41 #[.pointer (some ⟨g, 0, none⟩), .int .i64 n] w fun e w' => ∃ v, e = .returned v ∧ RowB w' w.heap.size v (Msg.rowP n s).1 ∧ RdrAt w' g B0 (Msg.rowP n s).2 ∧ w.grownBy w' (some g) := by
  obtain ⟨v, hB, ⟨hve, hB0⟩, hby, hl⟩ := hR
  have hB0s : B0 ≤ w.heap.size := by have := hB.lt; omega
  have hv := hve.reads hB0s
  obtain ⟨N, hN⟩ : ∃ N : Nat, max 0 n = (N : Int) := ⟨(max 0 n).toNat, by omega⟩
  have hN1 : N ≤ 1000 := by omega
  have HNN := hide hN
  have HB := hide hB
  have HV := hide hve
  have HBY := hide hby
  have HTK := hide (TakeNet_any v s.b w hv hby hl)
  have hgz := hB.lt
  obtain ⟨A, c, rfl, _, _, _⟩ := hv.open_
  have hc0 : w.cell? ⟨g, 0, none⟩ = some (.slice A s.b.length c) := by rw [hB.cell]; rfl
  have hz : (Value.int IntKind.u8 0) = .int .u8 0 := rfl
  have hbad : ∀ w1 : World, Blk w1 g 69 [.slice A s.b.length c, .bool s.bad] → ElB w1 B0 (.slice A s.b.length c) s.b → w.grownBy w1 (some g) → ∀ w2, Blk w2 w1.heap.size 5 (u8s (List.replicate N 0)) → Below w1.heap.size (w1.setCell ⟨g, 1, none⟩ (.bool true)) w2 →
      RowB w2 w.heap.size (.slice (some ⟨w1.heap.size, 0, none⟩) N N) (List.replicate (max 0 n).toNat 0) ∧ RdrAt w2 g B0 ⟨s.b, true⟩ ∧ w.grownBy w2 (some g) := fun w1 h1 h2 h3 w2 h4 h5 => by
    have hs := grown_setCells (g := g) [Value.bool true] w1 1
    have hk1 : Blk (w1.setCell ⟨g, 1, none⟩ (.bool true)) g 69 [.slice A s.b.length c, .bool true] := Blk.set_ h1 1 (.bool true)
    have hg1 : w1.grownBy (w1.setCell ⟨g, 1, none⟩ (.bool true)) (some g) := hs.1
    have hz1 : (w1.setCell ⟨g, 1, none⟩ (.bool true)).heap.size = w1.heap.size := hs.2
    have hg2 : (w1.setCell ⟨g, 1, none⟩ (.bool true)).grownBy w2 (some g) := ⟨h5.os, h5.tape, h5.output, h5.size, fun k hk _ => h5.block k (by omega)⟩
    have hz2 := hg2.size
    have hz3 := h3.size
    refine ⟨?_, ⟨_, hk1.below h5 h1.lt, ⟨?_, hB0⟩, hby, hl⟩, (h3.trans hg1).trans hg2⟩
    · rw [show (max 0 n).toNat = N by omega]
      have := RowB.of_blk (base := w.heap.size) h4 h3.size (bytes_rep N) (by rw [List.length_replicate]; unfold maxLen; omega)
      rwa [List.length_replicate] at this
    · have := h2.pastG h1 (by decide) hB0 hg1
      exact this.keptB (by rw [hz1]; exact h5) (by rw [hz1]; omega)
  have HBAD := hide hbad
  clear hB hv hve hbad hN
  have hN := HNN.out
  go_enter Tryd.func41, Tryd.ntmps41
  go_wp2_with fail
  refine HTK.out.mono ?_
  rintro e w1 (⟨v1, v2, x, r, ht, rfl, ho1, ho2, hb1⟩ | ⟨ht, rfl, rfl⟩)
  · have HTT := hide ht
    have HRL := hide (show r.length ≤ s.b.length ∧ s.b.length ≤ 1099511627776 from by
      have h1 := (take_sound _ _ _ ht).1
      have h2 : s.b.length = (netF x).length + r.length := by conv => lhs; rw [h1, List.length_append]
      exact ⟨by omega, hl⟩)
    have HO1 := hide ho1
    have HO2 := hide ho2
    have HBx := hide (HB.out.below hb1 hgz)
    have HVx := hide (HV.out.keptB hb1 hB0s)
    have HGx := hide (show w.grownBy w1 (some g) from ⟨hb1.os, hb1.tape, hb1.output, hb1.size, fun k hk _ => hb1.block k hk⟩)
    obtain ⟨A1, c1, rfl⟩ := ho1.shape
    obtain ⟨A2, c2, rfl⟩ := ho2.shape
    have hzz := hb1.size
    clear ht ho1 ho2 hb1 HTK hc0 HV HB
    by_cases hn0 : 0 ≤ n
    · by_cases hxn : (x.length : Int) = n
      · have hx' : ((x.length : Int) != n) = false := by simp [hxn]
        have HNB := hide (show ¬ (0 ≤ n ∧ (x.length : Int) ≠ n) from fun h => h.2 hxn)
        clear hxn
        have HRP := hide (show Msg.rowP n s = (x, ⟨r, s.bad⟩) by unfold Msg.rowP; rw [HTT.out]; exact if_neg (fun h => HNB.out h))
        have hc1 : w1.cell? ⟨g, 0, none⟩ = some (.slice A s.b.length c) := by rw [HBx.out.cell]; rfl
        have hf1 : w1.frozen? ⟨g, 0, none⟩ = false := HBx.out.frozen 0
        have hs := grown_setCells (g := g) [Value.slice A2 r.length c2] w1 0
        have HGS := hide (show w1.grownBy (w1.setCell ⟨g, 0, none⟩ (.slice A2 r.length c2)) (some g) from hs.1)
        have HRB := hide (HO1.out.kept HGS.out (.inr (by intro e; have := (HO1.out.base_ g e).1; omega)))
        have HRB2 := hide (HO2.out.kept HGS.out (.inr (by intro e; have := (HO2.out.base_ g e).1; omega)))
        have HBS := hide (show Blk (w1.setCell ⟨g, 0, none⟩ (.slice A2 r.length c2)) g 69 [.slice A2 r.length c2, .bool s.bad] from Blk.set_ HBx.out 0 (.slice A2 r.length c2))
        clear hs
        go_wp2_with go_skip
        go_ret
        refine ⟨_, rfl, ?_⟩
        rw [HRP.out]
        exact ⟨HRB.out, ⟨_, HBS.out, ⟨.inr (HRB2.out.more hB0s), hB0⟩, HO2.out.bytes, by have := HRL.out; show r.length ≤ 1099511627776; omega⟩, HGx.out.trans HGS.out⟩
      · have hx' : ((x.length : Int) != n) = true := by simp [hxn]
        have HRP := hide (show Msg.rowP n s = (List.replicate (max 0 n).toNat 0, ⟨s.b, true⟩) by unfold Msg.rowP; rw [HTT.out]; exact if_pos ⟨hn0, hxn⟩)
        clear hxn
        have hc1 : w1.cell? ⟨g, 1, none⟩ = some (.bool s.bad) := by rw [HBx.out.cell]; rfl
        have hf1 : w1.frozen? ⟨g, 1, none⟩ = false := HBx.out.frozen 1
        go_wp2_with (first
          | go_skip
          | (refine wpList_make_bytes rfl _ _ rfl .i64 .i64 N N rfl rfl (Nat.le_refl _) (by omega) ?_; intro w2 hb2 hw2 hz2; have HF := hide (HBAD.out w1 HBx.out HVx.out HGx.out w2 (by simpa using hb2) (by simpa using hw2)); clear hb2 hw2 hz2))
        go_ret
        refine ⟨_, rfl, ?_⟩
        rw [HRP.out]
        have hF := HF.out
        simpa using hF
    · have HNB := hide (show ¬ (0 ≤ n ∧ (x.length : Int) ≠ n) from fun h => hn0 h.1)
      have HRP := hide (show Msg.rowP n s = (x, ⟨r, s.bad⟩) by unfold Msg.rowP; rw [HTT.out]; exact if_neg (fun h => HNB.out h))
      have hc1 : w1.cell? ⟨g, 0, none⟩ = some (.slice A s.b.length c) := by rw [HBx.out.cell]; rfl
      have hf1 : w1.frozen? ⟨g, 0, none⟩ = false := HBx.out.frozen 0
      have hs := grown_setCells (g := g) [Value.slice A2 r.length c2] w1 0
      have HGS := hide (show w1.grownBy (w1.setCell ⟨g, 0, none⟩ (.slice A2 r.length c2)) (some g) from hs.1)
      have HRB := hide (HO1.out.kept HGS.out (.inr (by intro e; have := (HO1.out.base_ g e).1; omega)))
      have HRB2 := hide (HO2.out.kept HGS.out (.inr (by intro e; have := (HO2.out.base_ g e).1; omega)))
      have HBS := hide (show Blk (w1.setCell ⟨g, 0, none⟩ (.slice A2 r.length c2)) g 69 [.slice A2 r.length c2, .bool s.bad] from Blk.set_ HBx.out 0 (.slice A2 r.length c2))
      clear hs
      go_wp2_with go_skip
      go_ret
      refine ⟨_, rfl, ?_⟩
      rw [HRP.out]
      exact ⟨HRB.out, ⟨_, HBS.out, ⟨.inr (HRB2.out.more hB0s), hB0⟩, HO2.out.bytes, by have := HRL.out; show r.length ≤ 1099511627776; omega⟩, HGx.out.trans HGS.out⟩
  · have HRP := hide (show Msg.rowP n s = (List.replicate (max 0 n).toNat 0, ⟨s.b, true⟩) by unfold Msg.rowP; rw [ht])
    have HBx := HB
    have HVx := HV
    have HGx := hide (World.grownBy.refl w (some g))
    clear ht HTK hc0
    have hc1 : w.cell? ⟨g, 1, none⟩ = some (.bool s.bad) := by rw [HBx.out.cell]; rfl
    have hf1 : w.frozen? ⟨g, 1, none⟩ = false := HBx.out.frozen 1
    go_wp2_with (first
      | go_skip
      | (refine wpList_make_bytes rfl _ _ rfl .i64 .i64 N N rfl rfl (Nat.le_refl _) (by omega) ?_; intro w2 hb2 hw2 hz2; have HF := hide (HBAD.out w HBx.out HVx.out HGx.out w2 (by simpa using hb2) (by simpa using hw2)); clear hb2 hw2 hz2))
    go_ret
    refine ⟨_, rfl, ?_⟩
    rw [HRP.out]
    have hF := HF.out
    simpa using hF
end Go.Proofs.YtfinfkodjkfibaaDoor

namespace Go.Proofs.YtfinfkodjkfibaaDoor
open Go Go.RowKit
set_option linter.unusedVariables false
set_option linter.unusedSimpArgs false
set_option maxRecDepth 100000
theorem rowP_len {n : Int} (hn : 0 ≤ n) (s : Msg.St) : ((Msg.rowP n s).1.length : Int) = n := by
  unfold Msg.rowP
  rcases takeF s.b with _ | ⟨x, r⟩
  · simp; omega
  · simp only
    split
    · simp; omega
    · rename_i h
      exact Classical.byContradiction fun hne => h ⟨hn, hne⟩
set_option maxHeartbeats 2000000
theorem num_any (W : Nat) (hW : W ≤ 7) (s : Msg.St) (w : World) (g B0 : Nat) (hR : RdrAt w g B0 s) :
    Calls Tryd.prog 34 #[.pointer (some ⟨g, 0, none⟩), .int .i64 (W : Int)] w fun e w' => e = .returned (.int .i64 (Msg.numP W s).1) ∧ RdrAt w' g B0 (Msg.numP W s).2 ∧ w.grownBy w' (some g) := by
  have HRW := hide (row_any (W : Int) s w g B0 hR (by omega))
  have HL := hide (rowP_len (n := (W : Int)) (by omega) s)
  have HN := hide (show Msg.numP W s = ((getN (Msg.rowP (W : Int) s).1 : Int), (Msg.rowP (W : Int) s).2) from rfl)
  rw [HN.out]
  obtain ⟨x, HX⟩ : ∃ x, Hid ((Msg.rowP (W : Int) s).1 = x) := ⟨_, hide rfl⟩
  obtain ⟨s2, HS⟩ : ∃ x, Hid ((Msg.rowP (W : Int) s).2 = x) := ⟨_, hide rfl⟩
  rw [HX.out, HS.out] at HRW ⊢
  rw [HX.out] at HL
  obtain ⟨G, HG⟩ : ∃ G, Hid ((getN x : Int) = G) := ⟨_, hide rfl⟩
  have HGF := hide (show getF x = .tuple #[.int .i64 G, .bool true] by unfold getF; rw [if_pos (by have := HL.out; omega), HG.out])
  rw [HG.out]
  clear hR HN
  go_enter Tryd.func34, Tryd.ntmps34
  go_wp2_with fail
  refine HRW.out.mono ?_
  rintro e w1 ⟨v, rfl, ho, hr, hg⟩
  have HR := hide hr
  have HGR := hide hg
  have HGE := hide (Get_any v x w1 ho.reads ho.bytes)
  rw [HGF.out] at HGE
  clear ho hr hg HRW
  go_wp2_with fail
  refine HGE.out.mono ?_
  rintro e w2 ⟨rfl, rfl⟩
  go_wp2_with fail
  go_ret
  exact ⟨rfl, HR.out, HGR.out⟩
theorem RdrAt.put {w w' : World} {g B0 : Nat} {s : Msg.St} {b : Bool} (h : RdrAt w g B0 s) : RdrAt (w.setCell ⟨g, 1, none⟩ (.bool b)) g B0 ⟨s.b, b⟩ ∧ w.grownBy (w.setCell ⟨g, 1, none⟩ (.bool b)) (some g) := by
  obtain ⟨v, hB, ⟨hv, hB0⟩, hby, hl⟩ := h
  have hs := grown_setCells (g := g) [Value.bool b] w 1
  have hg : w.grownBy (w.setCell ⟨g, 1, none⟩ (.bool b)) (some g) := hs.1
  exact ⟨⟨_, Blk.set_ hB 1 (.bool b), ⟨hv.pastG hB (by decide) hB0 hg, hB0⟩, hby, hl⟩, hg⟩
theorem count_any (s : Msg.St) (w : World) (g B0 : Nat) (hR : RdrAt w g B0 s) :
    Calls Tryd.prog 42 #[.pointer (some ⟨g, 0, none⟩)] w fun e w' => e = .returned (.int .i64 (Msg.countP' s).1) ∧ RdrAt w' g B0 (Msg.countP' s).2 ∧ w.grownBy w' (some g) := by
  have HNM := hide (num_any 1 (by omega) s w g B0 hR)
  have HC := hide (show Msg.countP' s = if 32 < (Msg.numP 1 s).1 then (0, ⟨(Msg.numP 1 s).2.b, true⟩) else Msg.numP 1 s from rfl)
  rw [HC.out]
  clear hR HC
  generalize Msg.numP 1 s = P at *
  obtain ⟨n, s2⟩ := P
  simp only at HNM ⊢
  go_enter Tryd.func42, Tryd.ntmps42
  go_wp2_with fail
  refine HNM.out.mono ?_
  rintro e w1 ⟨rfl, hr, hg⟩
  have HR := hide hr
  have HG := hide hg
  have hc1 : w1.cell? ⟨g, 1, none⟩ = some (.bool s2.bad) := by obtain ⟨v, hB, _⟩ := hr; rw [hB.cell]; rfl
  have hf1 : w1.frozen? ⟨g, 1, none⟩ = false := by obtain ⟨v, hB, _⟩ := hr; exact hB.frozen 1
  clear hr hg HNM
  by_cases h32 : 32 < n
  · have HP := hide (RdrAt.put (w' := w1) (b := true) HR.out)
    go_wp2_with fail
    go_ret
    first | rw [if_pos h32] | skip
    exact ⟨rfl, HP.out.1, HG.out.trans HP.out.2⟩
  · go_wp2_with fail
    go_ret
    first | rw [if_neg (by omega)] | skip
    exact ⟨rfl, HR.out, HG.out⟩
theorem share_any (s : Msg.St) (w : World) (g B0 : Nat) (hR : RdrAt w g B0 s) :
    Calls Tryd.prog 43 #[.pointer (some ⟨g, 0, none⟩)] w fun e w' => e = .returned (.int .i64 (Msg.shareP s).1) ∧ RdrAt w' g B0 (Msg.shareP s).2 ∧ w.grownBy w' (some g) := by
  have HNM := hide (num_any 1 (by omega) s w g B0 hR)
  have HC := hide (show Msg.shareP s = ((Msg.numP 1 s).1, ⟨(Msg.numP 1 s).2.b, (Msg.numP 1 s).2.bad || decide (16 ≤ (Msg.numP 1 s).1)⟩) from rfl)
  rw [HC.out]
  clear hR HC
  generalize Msg.numP 1 s = P at *
  obtain ⟨n, s2⟩ := P
  simp only at HNM ⊢
  obtain ⟨B, HBV⟩ : ∃ B, Hid ((s2.bad || decide (16 ≤ n)) = B) := ⟨_, hide rfl⟩
  rw [HBV.out]
  go_enter Tryd.func43, Tryd.ntmps43
  go_wp2_with fail
  refine HNM.out.mono ?_
  rintro e w1 ⟨rfl, hr, hg⟩
  have HR := hide hr
  have HG := hide hg
  have hf1 : w1.frozen? ⟨g, 1, none⟩ = false := by obtain ⟨v, hB, _⟩ := hr; exact hB.frozen 1
  have hc1 : w1.cell? ⟨g, 1, none⟩ = some (.bool s2.bad) := by obtain ⟨v, hB, _⟩ := hr; rw [hB.cell]; rfl
  have HP := hide (RdrAt.put (w' := w1) (b := B) HR.out)
  clear hr hg HNM
  obtain ⟨b, bad⟩ := s2
  cases bad
  · by_cases h16 : 16 ≤ n
    · obtain rfl : B = true := by rw [← HBV.out]; simp [h16]
      clear HBV
      go_wp2_with go_skip
      go_ret
      exact ⟨rfl, HP.out.1, HG.out.trans HP.out.2⟩
    · obtain rfl : B = false := by rw [← HBV.out]; simp [h16]
      have HD := hide (show decide (16 ≤ n) = false from decide_eq_false h16)
      clear HBV
      go_wp2_with go_skip
      go_ret
      first | rw [HD.out] | skip
      exact ⟨rfl, HP.out.1, HG.out.trans HP.out.2⟩
  · obtain rfl : B = true := by rw [← HBV.out]; rfl
    clear HBV
    go_wp2_with go_skip
    go_ret
    exact ⟨rfl, HP.out.1, HG.out.trans HP.out.2⟩
end Go.Proofs.YtfinfkodjkfibaaDoor

namespace Go.Proofs.YtfinfkodjkfibaaDoor
open Go Go.RowKit
set_option linter.unusedVariables false
set_option linter.unusedSimpArgs false
set_option maxRecDepth 100000
theorem OwnBlbs.pastR {w w' : World} {base g B0 : Nat} {v : Value} {l : List Msg.Blb} {s : Msg.St} (h : OwnBlbs w base v l) (hR : RdrAt w g B0 s) (hg : w.grownBy w' (some g)) (hgb : g < base) (hB : base ≤ w.heap.size) : OwnBlbs w' base v l := by
  obtain ⟨us, hl, h1, h2⟩ := h
  obtain ⟨rv, hk, ⟨hrv, _⟩, _, _⟩ := hR
  obtain ⟨A, c, rfl⟩ : ∃ A c, rv = .slice A s.b.length c := by
    rcases hrv with h | h
    · obtain ⟨A, c, rfl, _⟩ := h.open_; exact ⟨A, c, rfl⟩
    · exact h.shape
  refine ⟨us, hl, h1.kept hg (.inr (by intro e; have := own_base h1 g e; omega)), fun i hi => ?_⟩
  obtain ⟨u, hu, hx⟩ := h2 i hi
  refine ⟨u, hu, ?_⟩
  rcases hx with hx | hx
  · exact .inl (Bs.past hx hB hg hk slice_no bool_no)
  · exact .inr (hx.kept hg (.inr (by intro e; have := (hx.base_ g e).1; omega)))
theorem countP_range (s : Msg.St) : 0 ≤ (Msg.countP' s).1 ∧ (Msg.countP' s).1 ≤ 32 := by
  have hn : 0 ≤ (Msg.numP 1 s).1 := Int.natCast_nonneg _
  unfold Msg.countP'
  split
  · exact ⟨Int.le_refl _, by show (0 : Int) ≤ 32; omega⟩
  · rename_i h; exact ⟨hn, by omega⟩
theorem RdrAt.far {w w' : World} {g B0 : Nat} {s : Msg.St} (h : RdrAt w g B0 s) (hb : Below w.heap.size w w') : RdrAt w' g B0 s := by
  obtain ⟨v, hB, ⟨hv, hB0⟩, hby, hl⟩ := h
  exact ⟨v, hB.below hb hB.lt, ⟨hv.keptB hb (by have := hB.lt; omega), hB0⟩, hby, hl⟩
/-- An append onto a row of blobs of the call's own leaves the reader. -/
theorem RdrAt.pastO {w w' : World} {g B0 base size n : Nat} {s : Msg.St} {v : Value} {vs : List Value} (h : RdrAt w g B0 s) (ho : w.ownsRow base 44 size v n vs) (hb : B0 ≤ base) (hg : w.grownBy w' v.ownBlock) : RdrAt w' g B0 s := by
  obtain ⟨rv, hB, ⟨hv, hB0⟩, hby, hl⟩ := h
  have hgl := hB.lt
  exact ⟨rv, hB.grown hg (own_ne_blk ho hB (by decide)), ⟨elB_grownT hv (own_more ho hb) (by decide) hg (by omega), hB0⟩, hby, hl⟩
theorem RdrAt.lt {w : World} {g B0 : Nat} {s : Msg.St} (h : RdrAt w g B0 s) : g < w.heap.size := by
  obtain ⟨v, hB, _⟩ := h
  exact hB.lt
set_option maxHeartbeats 4000000
theorem rblobs_any (s : Msg.St) (w : World) (g B0 : Nat) (hR : RdrAt w g B0 s) :
    Calls Tryd.prog 35 #[.pointer (some ⟨g, 0, none⟩)] w fun e w' => ∃ v, e = .returned v ∧ OwnBlbs w' w.heap.size v (Msg.blobsP s).1 ∧ RdrAt w' g B0 (Msg.blobsP s).2 ∧ w.grownBy w' (some g) := by
  have hgl := hR.lt
  have hgB : B0 ≤ g := by obtain ⟨_, _, ⟨_, h⟩, _⟩ := hR; exact h
  have HC := hide (count_any s w g B0 hR)
  have HRG := hide (countP_range s)
  have HBP := hide (show Msg.blobsP s = Msg.blobsN (Msg.countP' s).1.toNat (Msg.countP' s).2 from rfl)
  rw [HBP.out]
  clear HBP
  generalize Msg.countP' s = P at *
  obtain ⟨n0, s0⟩ := P
  simp only at HC HRG ⊢
  obtain ⟨n, rfl⟩ := Int.eq_ofNat_of_zero_le HRG.out.1
  have hn32 : n ≤ 32 := by have := HRG.out.2; omega
  rw [Int.toNat_natCast]
  obtain ⟨RES, HRES⟩ : ∃ r, Hid (Msg.blobsN n s0 = r) := ⟨_, hide rfl⟩
  rw [HRES.out]
  obtain ⟨base, HBS⟩ : ∃ b, Hid (w.heap.size = b) := ⟨_, hide rfl⟩
  have hgl' : g < base := by rw [← HBS.out]; exact hgl
  rw [HBS.out]
  clear hR HRG hgl
  go_enter Tryd.func35, Tryd.ntmps35
  go_wp2_with fail
  refine HC.out.mono ?_
  rintro e w1 ⟨rfl, hr, hg⟩
  have HR := hide hr
  have HG := hide hg
  clear hr hg HC
  go_wp2_with fail
  go_loopw [3, 6] (fun v3 v6 wr => ∃ (i : Nat) (l : List Msg.Blb) (s' : Msg.St), v6 = .int .i64 i ∧ i ≤ n ∧ l.length = i ∧ OwnBlbs wr base v3 l ∧ RdrAt wr g B0 s' ∧ w.grownBy wr (some g) ∧ RES = (l ++ (Msg.blobsN (n - i) s').1, (Msg.blobsN (n - i) s').2)) (fun _ v6 _ => n - (intOf v6).toNat)
  case atStart => exact ⟨0, [], s0, by go_num, by omega, rfl, OwnBlbs.nil_ _ _, HR.out, HG.out, by rw [Nat.sub_zero, ← HRES.out]; rfl⟩
  case round =>
    obtain ⟨i, l, s', rfl, hin, hl, ho, hr, hg, hres⟩ := hrel
    clear HR HG
    have HO := hide ho
    have HR := hide hr
    have HG := hide hg
    have HE := hide hres
    have HL := hide hl
    clear ho hr hg hres hl
    have hz0 : base ≤ wr.heap.size := by rw [← HBS.out]; exact HG.out.size
    by_cases hlt : i < n
    · have hlt' : (i : Int) < (n : Int) := by omega
      have HSH := hide (share_any s' wr g B0 HR.out)
      have HSP := hide (show Msg.blobP s' = (((Msg.shareP s').1, (Msg.rowP (-1) (Msg.shareP s').2).1), (Msg.rowP (-1) (Msg.shareP s').2).2) from rfl)
      have HRW := hide (fun w' h => row_any (-1) (Msg.shareP s').2 w' g B0 h (by omega))
      have HSN := hide (show Msg.blobsN (n - i) s' = ((Msg.blobP s').1 :: (Msg.blobsN (n - (i + 1)) (Msg.blobP s').2).1, (Msg.blobsN (n - (i + 1)) (Msg.blobP s').2).2) by
        rw [show n - i = (n - (i + 1)) + 1 by omega]; rfl)
      rw [HSN.out, HSP.out] at HE
      clear HSN HSP
      generalize Msg.shareP s' = P2 at *
      obtain ⟨num, s2⟩ := P2
      simp only at HSH HRW HE
      generalize Msg.rowP (-1) s2 = P3 at *
      obtain ⟨x, s3⟩ := P3
      simp only at HRW HE
      go_wp2_with fail
      refine HSH.out.mono ?_
      rintro e w2 ⟨rfl, hr2, hg2⟩
      have HR2 := hide hr2
      have HO2 := hide (HO.out.pastR HR.out hg2 hgl' hz0)
      have HG2 := hide (HG.out.trans hg2)
      have hz2 := hg2.size
      clear hr2 hg2 HSH HO HR HG
      go_wp2_with fail
      refine (HRW.out w2 HR2.out).mono ?_
      rintro e w3 ⟨v1, rfl, ho1, hr3, hg3⟩
      have HR3 := hide hr3
      have HO3 := hide (HO2.out.pastR HR2.out hg3 hgl' (by omega))
      have HG3 := hide (HG2.out.trans hg3)
      have HX := hide (ho1.more (show base ≤ w2.heap.size by omega))
      have hz3 := hg3.size
      obtain ⟨A1, c1, rfl⟩ := ho1.shape
      clear hr3 hg3 ho1 HRW HO2 HR2 HG2
      have hA := (Below.refl w3.heap.size w3).alloc (Nat.le_refl _) (.cells #[.int .i64 num, .slice A1 x.length c1] 44)
      have HA := hide hA
      have HO4 := hide (HO3.out.keptB hA (by omega))
      have HX4 := hide (HX.out.keptB hA)
      have HRL := hide (Rd.of_blk (B := w3.heap.size + 1) (Blk.new w3 44 [.int .i64 num, .slice A1 x.length c1]) (by omega) 2 1 1 rfl (Nat.le_refl _) (by decide))
      have hzA := hA.size
      clear hA
      obtain ⟨us, hul, hrow, hel⟩ := HO4.out
      have HEL := hide hel
      have HUL := hide hul
      rw [HL.out] at hrow
      clear hel hul
      go_wp2_with (at_builtin; go_must (refine wpList_append_rd _ rfl _ _ _ rfl base _ 2 32 el_blobs _ i _ rfl hrow (w3.heap.size + 1) _ 1 _ rfl HRL.out (by intro u hu; simp only [List.mem_cons, List.not_mem_nil, or_false] at hu; rcases hu with rfl | rfl <;> rfl) (by omega) (by omega) ?_))
      intro v4 w4 ho4 hg4 _
      have HO5 := hide (OwnBlbs.push HUL.out (by rw [HL.out]; exact hrow) HEL.out (by omega) (.inr HX4.out) (by rw [HL.out]; exact ho4) hg4)
      have HR5 := hide ((HR3.out.far HA.out).pastO hrow (by omega) hg4)
      have HG5 := hide (show w.grownBy w4 (some g) from ⟨hg4.os.trans (HA.out.os.trans HG3.out.os), hg4.tape.trans (HA.out.tape.trans HG3.out.tape), hg4.output.trans (HA.out.output.trans HG3.out.output), Nat.le_trans HG3.out.size (Nat.le_trans HA.out.size hg4.size), fun k hk hne => by
        have h1 := HG3.out.block k hk hne
        have hk3 : k < w3.heap.size := Nat.lt_of_lt_of_le hk HG3.out.size
        have h2 := HA.out.block k hk3
        have h3 := hg4.block k (Nat.lt_of_lt_of_le hk3 HA.out.size) (by
          intro e
          have := own_base hrow k e.symm
          have := HBS.out
          omega)
        rw [h3, h2, h1]⟩)
      clear ho4 hg4 hrow HO3 HO4 HR3 HG3 HX HX4 HRL HA HEL HUL
      go_wp2_with fail
      go_roundw
      case measure => simp [intOf]; omega
      case rel => exact ⟨i + 1, l ++ [(num, x)], s3, by go_num, by omega, by rw [List.length_append, HL.out]; rfl, HO5.out, HR5.out, HG5.out, by rw [List.append_assoc]; exact HE.out⟩
    · obtain rfl : i = n := by omega
      have hlt' : ¬ (i : Int) < (i : Int) := by omega
      obtain ⟨A3, c3, rfl⟩ := HO.out.shape
      have HEE := hide (show RES = (l, s') by have := HE.out; rw [Nat.sub_self] at this; simpa [Msg.blobsN] using this)
      go_wp2_with fail
      go_ret
      refine ⟨_, rfl, ?_⟩
      rw [HEE.out]
      exact ⟨HO.out, HR.out, HG.out⟩
end Go.Proofs.YtfinfkodjkfibaaDoor
