/- place.match.try: what a round of the search for pairs does, as a relation; and the walk. No condition. -/
import Derived.Test.YtoicohcomjnnfaaSmall
namespace Go.Proofs.Ytoicohcomjnnfaa
open Go Go.RowKit

abbrev TrySt := List Int × List Bool

/-- A server s goes through its shares ns; the state is who has each share, and which shares have been seen. -/
inductive TryR (l : List (List Int)) : Int → List Int → TrySt → Bool → TrySt → Prop where
  | nil (s : Int) (st : TrySt) : TryR l s [] st false st
  | skip {s n : Int} {ns : List Int} {st st' : TrySt} {b : Bool} : (n < 0 ∨ 16 ≤ n ∨ st.2.getD n.toNat false = true) → TryR l s ns st b st' → TryR l s (n :: ns) st b st'
  | free {s n : Int} {ns : List Int} {st : TrySt} : 0 ≤ n → n < 16 → st.2.getD n.toNat false = false → st.1.getD n.toNat 0 < 0 →
      TryR l s (n :: ns) st true (st.1.set n.toNat s, st.2.set n.toNat true)
  | take {s n : Int} {ns : List Int} {st st' : TrySt} : 0 ≤ n → n < 16 → st.2.getD n.toNat false = false → 0 ≤ st.1.getD n.toNat 0 →
      TryR l (st.1.getD n.toNat 0) (l.getD (st.1.getD n.toNat 0).toNat []) (st.1, st.2.set n.toNat true) true st' →
      TryR l s (n :: ns) st true (st'.1.set n.toNat s, st'.2)
  | fail {s n : Int} {ns : List Int} {st st1 st' : TrySt} {b : Bool} : 0 ≤ n → n < 16 → st.2.getD n.toNat false = false → 0 ≤ st.1.getD n.toNat 0 →
      TryR l (st.1.getD n.toNat 0) (l.getD (st.1.getD n.toNat 0).toNat []) (st.1, st.2.set n.toNat true) false st1 →
      TryR l s ns st1 b st' → TryR l s (n :: ns) st b st'

def TryOk (l : List (List Int)) (st : TrySt) : Prop := st.1.length = 16 ∧ st.2.length = 16 ∧ ∀ x ∈ st.1, -1 ≤ x ∧ x < l.length

theorem count_false_set (l : List Bool) (i : Nat) (h : i < l.length) (h' : l.getD i false = false) : (l.set i true).count false + 1 = l.count false := by
  induction l generalizing i with
  | nil => simp at h
  | cons a l ih =>
    cases i with
    | zero =>
      simp at h'
      subst h'
      simp [List.count_cons]
    | succ i =>
      simp at h h'
      rw [List.set_cons_succ, List.count_cons, List.count_cons]
      have := ih i h (by simpa using h')
      omega

theorem TryOk.who {l : List (List Int)} {st : TrySt} (h : TryOk l st) (i : Nat) (hi : i < 16) : -1 ≤ st.1.getD i 0 ∧ st.1.getD i 0 < l.length := by
  have hm : st.1.getD i 0 ∈ st.1 := by
    rw [List.getD_eq_getElem?_getD, List.getElem?_eq_getElem (by have := h.1; omega)]
    exact List.getElem_mem _
  exact h.2.2 _ hm
theorem TryOk.set_ {l : List (List Int)} {st : TrySt} (h : TryOk l st) (i : Nat) (s : Int) (h0 : -1 ≤ s) (hs : s < l.length) : TryOk l (st.1.set i s, st.2) := by
  refine ⟨by simpa using h.1, h.2.1, fun x hx => ?_⟩
  rcases List.mem_or_eq_of_mem_set hx with hx | rfl
  · exact h.2.2 x hx
  · exact ⟨h0, hs⟩
theorem TryOk.mark {l : List (List Int)} {st : TrySt} (h : TryOk l st) (i : Nat) : TryOk l (st.1, st.2.set i true) := ⟨h.1, by simpa using h.2.1, h.2.2⟩

theorem TryR.ok {l : List (List Int)} {s : Int} {ns : List Int} {st st' : TrySt} {b : Bool} (h : TryR l s ns st b st') :
    TryOk l st → 0 ≤ s → s < l.length → TryOk l st' ∧ st'.2.count false ≤ st.2.count false := by
  induction h with
  | nil s st => exact fun h _ _ => ⟨h, Nat.le_refl _⟩
  | skip _ _ ih => exact ih
  | free h0 h1 h2 h3 =>
    intro ho hs hl
    refine ⟨(ho.mark _).set_ _ _ (by omega) hl, ?_⟩
    have := count_false_set _ _ (by have := ho.2.1; omega) h2
    simp only
    omega
  | @take s n ns st st' h0 h1 h2 h3 _ ih =>
    intro ho hs hl
    have hw := ho.who n.toNat (by omega)
    obtain ⟨i1, i2⟩ := ih (ho.mark _) h3 hw.2
    refine ⟨i1.set_ _ _ (by omega) hl, ?_⟩
    have := count_false_set _ _ (by have := ho.2.1; omega) h2
    simp only at i2 ⊢
    omega
  | @fail s n ns st st1 st' b h0 h1 h2 h3 _ _ ih1 ih2 =>
    intro ho hs hl
    have hw := ho.who n.toNat (by omega)
    obtain ⟨i1, i2⟩ := ih1 (ho.mark _) h3 hw.2
    obtain ⟨j1, j2⟩ := ih2 i1 hs hl
    refine ⟨j1, ?_⟩
    have := count_false_set _ _ (by have := ho.2.1; omega) h2
    simp only at i2
    omega

/-- How a call of try ends. -/
def TryPost (l : List (List Int)) (lv : Value) (bm bs B : Nat) (s : Int) (ns : List Int) (st : TrySt) (w : World) (e : Ending) (w' : World) : Prop :=
  ∃ b st', e = .returned (.bool b) ∧ TryR l s ns st b st' ∧ Blk w' bm 66 (lv :: st'.1.map (.int .i64)) ∧ Blk w' bs 60 (st'.2.map .bool) ∧ Below B w w'

set_option maxHeartbeats 2000000 in
theorem try_any (l : List (List Int)) (lv : Value) (bm bs B : Nat) (hne : bm ≠ bs) (hBm : B ≤ bm) (hBs : B ≤ bs) (N : Nat) : ∀ (s : Int) (st : TrySt) (w : World), st.2.count false < N → 0 ≤ s → s < l.length →
    TryOk l st → Rows2 w B lv l → Blk w bm 66 (lv :: st.1.map (.int .i64)) → Blk w bs 60 (st.2.map .bool) →
    Calls Try.prog 42 #[.pointer (some ⟨bm, 0, none⟩), .int .i64 s, .pointer (some ⟨bs, 0, none⟩)] w (TryPost l lv bm bs B s (l.getD s.toNat []) st w) := by
  induction N with
  | zero => intro s st w h; omega
  | succ N ih =>
    intro s st w hN hs0 hsl hok hrows hbm hbs
    obtain ⟨s, rfl⟩ := Int.eq_ofNat_of_zero_le hs0
    have hsl' : s < l.length := by omega
    rw [Int.toNat_natCast]
    have el : l.getD s [] = l[s] := by rw [List.getD_eq_getElem?_getD, List.getElem?_eq_getElem hsl']; rfl
    rw [el]
    obtain ⟨A, c, rfl, h1, h2, h3⟩ := hrows.open_
    unfold maxLen at h2
    obtain ⟨b, o, rfl, hbB, hcs⟩ := h3 (by omega)
    obtain ⟨u, hc, hi⟩ := hcs s hsl'
    obtain ⟨A1, c1, rfl, g1, g2, g3⟩ := hi.open_
    unfold maxLen at g2
    have G3 := hide g3
    have HR := hide hrows
    have hc0 := hbm.cell 0
    rw [List.getElem?_cons_zero] at hc0
    have HM := hide hbm
    have HS := hide hbs
    have HOK := hide hok
    have hin := hide ih
    clear el h3 hcs hi g3 hrows hbm hbs hok ih
    go_enter Try.func42, Try.ntmps42
    go_wp2_with fail
    go_loopw [6, 8, 17] (fun _ _ i wr => ∃ (j : Nat) (stj : TrySt), j ≤ l[s].length ∧ i = .int .i64 j ∧ TryOk l stj ∧ stj.2.count false ≤ st.2.count false ∧
      (∀ b st', TryR l s (l[s].drop j) stj b st' → TryR l s l[s] st b st') ∧
      Blk wr bm 66 (.slice (some ⟨b, o, none⟩) l.length c :: stj.1.map (.int .i64)) ∧ Blk wr bs 60 (stj.2.map .bool) ∧ Below B w wr) (fun _ _ i _ => l[s].length - (intOf i).toNat)
    case atStart => exact ⟨0, st, Nat.zero_le _, rfl, HOK.out, Nat.le_refl _, fun _ _ h => by simpa using h, HM.out, HS.out, Below.refl _ _⟩
    case round =>
      obtain ⟨j, stj, hj, rfl, hokj, hcj, hk, hbm, hbs, hbel⟩ := hrel
      by_cases hjt : j < l[s].length
      · obtain ⟨b1, o1, rfl, hb1, hcs⟩ := G3.out (by omega)
        have hc0 := hcs j hjt
        have hc : wr.cell? ⟨b1, o1 + j, none⟩ = some (.int .i64 l[s][j]) := (hbel.cell (p := ⟨b1, o1 + j, none⟩) hb1).trans hc0
        have ed : l[s].drop j = l[s][j] :: l[s].drop (j + 1) := List.drop_eq_getElem_cons hjt
        rw [ed] at hk
        have HMj := hide hbm
        have HSj := hide hbs
        have HB := hide hbel
        have HK := hide hk
        have HOj := hide hokj
        obtain ⟨n, HX⟩ : ∃ n, Hid (l[s][j] = n) := ⟨_, hide rfl⟩
        rw [HX.out] at hc hk
        have HK := hide hk
        clear hcs hc0 hbm hbs hbel ed hk hokj
        by_cases hn0 : n < 0
        · go_wp2_with fail
          go_roundw
          case rel => exact ⟨j + 1, stj, by omega, by go_num, HOj.out, hcj, fun b st' h => HK.out b st' (.skip (.inl hn0) h), HMj.out, HSj.out, HB.out⟩
          case measure => simp [intOf]; omega
        · by_cases hn1 : 16 ≤ n
          · go_wp2_with fail
            go_roundw
            case rel => exact ⟨j + 1, stj, by omega, by go_num, HOj.out, hcj, fun b st' h => HK.out b st' (.skip (.inr (.inl hn1)) h), HMj.out, HSj.out, HB.out⟩
            case measure => simp [intOf]; omega
          · obtain ⟨n, rfl⟩ := Int.eq_ofNat_of_zero_le (show 0 ≤ n by omega)
            have hn16 : n < 16 := by omega
            rcases hbx : stj.2.getD n false with _ | _
            · have hcx := blk_bool HSj.out n false (by have := HOj.out.2.1; omega) hbx
              have hfx := HSj.out.frozen n
              have HBX := hide hbx
              have hsm : n < stj.2.length := by have := HOj.out.2.1; omega
              have HSn := hide (HSj.out.set_ n (.bool true))
              have HMn := hide (HMj.out.far (p := ⟨bs, n, none⟩) hne (.bool true))
              have hcnt := count_false_set stj.2 n hsm hbx
              have hw := HOj.out.who n hn16
              obtain ⟨t, HT⟩ : ∃ t, Hid (stj.1.getD n 0 = t) := ⟨_, hide rfl⟩
              rw [HT.out] at hw
              have hcw : (wr.setCell ⟨bs, n, none⟩ (.bool true)).cell? ⟨bm, 1 + n, none⟩ = some (.int .i64 t) := by
                rw [HMn.out.cell, Nat.add_comm, List.getElem?_cons_succ, List.getElem?_map, List.getElem?_eq_getElem (by have := HOj.out.1; omega)]
                have := HT.out
                rw [List.getD_eq_getElem?_getD, List.getElem?_eq_getElem (by have := HOj.out.1; omega)] at this
                simp at this
                simp [this]
              have hfw := HMn.out.frozen (1 + n)
              clear hbx
              by_cases ht : t < 0
              · go_wp2_with fail
                go_ret
                refine ⟨true, (stj.1.set n s, stj.2.set n true), rfl, HK.out _ _ (.free (by omega) (by omega) (by simpa using HBX.out) (by rw [Int.toNat_natCast, HT.out]; exact ht)), ?_, ?_, (HB.out.setCell hBs _).setCell hBm _⟩
                · simpa [Nat.add_comm] using HMn.out.set_ (1 + n) (.int .i64 s)
                · simpa using HSn.out.far (p := ⟨bm, 1 + n, none⟩) (Ne.symm hne) (.int .i64 s)
              · obtain ⟨t, rfl⟩ := Int.eq_ofNat_of_zero_le (show 0 ≤ t by omega)
                have hb2 := HB.out.setCell (p := ⟨bs, n, none⟩) hBs (.bool true)
                have hR2 := hide (HR.out.below hb2 (Nat.le_refl _))
                have HB2 := hide hb2
                have HSn' := hide (show Blk (wr.setCell ⟨bs, n, none⟩ (.bool true)) bs 60 ((stj.2.set n true).map .bool) by simpa using HSn.out)
                have hdec : (stj.2.set n true).count false < N := by omega
                have hdec2 : (stj.2.set n true).count false ≤ st.2.count false := by omega
                have htl : (t : Int) < l.length := hw.2
                clear hb2 hw hcnt
                go_wp2_with fail
                refine (hin.out t (stj.1, stj.2.set n true) _ hdec (by omega) htl (HOj.out.mark n) hR2.out HMn.out HSn'.out).mono ?_
                rintro e w' ⟨b, st', rfl, hR, hm, hs, hb⟩
                have hok' := hR.ok (HOj.out.mark n) (by omega) htl
                have HE := hide (show stj.1.getD (Int.toNat (n : Int)) 0 = (t : Int) by simpa using HT.out)
                have HR3 := hide hR
                have HM3 := hide hm
                have HS3 := hide hs
                have HB3 := hide (HB2.out.trans hb)
                have hsz := hb.size
                have HOK3 := hide hok'.1
                have hcnt3 : st'.2.count false ≤ st.2.count false := Nat.le_trans hok'.2 hdec2
                have hm3 := hm.frozen (1 + n)
                obtain ⟨old, hold⟩ : ∃ old, w'.cell? ⟨bm, 1 + n, none⟩ = some old := by
                  rw [hm.cell, Nat.add_comm, List.getElem?_cons_succ, List.getElem?_map, List.getElem?_eq_getElem (by have := HOK3.out.1; omega)]
                  exact ⟨_, rfl⟩
                clear hcw hfw hcx hfx hc hR hm hs hb hok'
                cases b
                · go_wp2_with fail
                  go_roundw
                  case rel =>
                    refine ⟨j + 1, st', by omega, by go_num, HOK3.out, hcnt3, fun b st'' h => HK.out b st'' (.fail (by omega) (by omega) (by simpa using HBX.out) (by rw [HE.out]; omega) ?_ h), HM3.out, HS3.out, HB3.out⟩
                    rw [HE.out]
                    exact HR3.out
                  case measure => simp [intOf]; omega
                · go_wp2_with fail
                  go_ret
                  refine ⟨true, (st'.1.set n s, st'.2), rfl, HK.out _ _ ?_, ?_, ?_, HB3.out.setCell hBm _⟩
                  · have := TryR.take (s := (s : Int)) (ns := l[s].drop (j + 1)) (st := stj) (st' := st') (n := (n : Int)) (by omega) (by omega) (by simpa using HBX.out) (by rw [HE.out]; omega) (by rw [HE.out]; exact HR3.out)
                    simpa using this
                  · simpa [Nat.add_comm] using HM3.out.set_ (1 + n) (.int .i64 s)
                  · exact HS3.out.far (p := ⟨bm, 1 + n, none⟩) (Ne.symm hne) (.int .i64 s)
            · have hcx := blk_bool HSj.out n true (by have := HOj.out.2.1; omega) hbx
              have HBX := hide hbx
              clear hbx
              go_wp2_with fail
              go_roundw
              case rel => exact ⟨j + 1, stj, by omega, by go_num, HOj.out, hcj, fun b st' h => HK.out b st' (.skip (.inr (.inr HBX.out)) h), HMj.out, HSj.out, HB.out⟩
              case measure => simp [intOf]; omega
      · go_wp2_with fail
        go_ret
        refine ⟨false, stj, rfl, hk _ _ ?_, hbm, hbs, hbel⟩
        rw [List.drop_eq_nil_of_le (by omega)]
        exact .nil _ _
end Go.Proofs.Ytoicohcomjnnfaa
