/- The searches of a list of numbers: place.Loses and the reference ask them. No condition.
Small helps of the statements: Within, Cut, Copy, Clone, Rows. Condition: an append stays below 2^47 bytes.
place.match.try: what a round of the search for pairs does, as a relation; and the walk. No condition.
place.Match: what it computes, as a relation; and the walk. No condition.
The plain law of the search for pairs: what place.Match finds is as much as there can be. No program in sight but for the relation.
How many pairs there can be, by going through all ways: the same as the greatest row of pairs. Plain law.
The example of the document on pairs of servers and shares. No condition. -/
import Derived.Test.YtgjepahhbecljaaDoorRows
import Derived.Test.YtgjepahhbecljaaDoorBase
import Derived.Test.YtgjepahhbecljaaDoorWithin
namespace Go.Proofs.YtgjepahhbecljaaDoor
open Go Go.RowKit
set_option maxRecDepth 100000

theorem not_mem_take_succ {xs : List Int} {x : Int} {k : Nat} (hk : k < xs.length) (h : x ∉ xs.take k) (hx : (xs[k] == x) = false) : x ∉ xs.take (k + 1) := by
  rw [List.take_succ_eq_append_getElem hk]
  have : ¬ x = xs[k] := by intro e; simp [e] at hx
  intro hm
  rcases List.mem_append.1 hm with hm | hm
  · exact h hm
  · simp only [List.mem_singleton] at hm; exact this hm


/-- What the library's search answers: at or above nought just where there is such a number. -/
def FoundInt (x : Int) (xs : List Int) (w : World) (e : Ending) (w' : World) : Prop := ∃ n : Int, e = .returned (.int .i64 n) ∧ (decide (0 ≤ n)) = decide (x ∈ xs) ∧ w = w'

set_option maxHeartbeats 400000 in
theorem index_any (v : Value) (xs : List Int) (x : Int) (w : World) (B : Nat) (h : Ints w B v xs) :
    Calls Tryd.prog 89 #[v, .int .i64 x] w (FoundInt x xs w) := by
  obtain ⟨A, c, rfl, h1, h2, h3⟩ := h.open_
  unfold maxLen at h2
  go_enter Tryd.func89, Tryd.ntmps89
  go_wp2
  go_loop [5, 8] (fun _ i => ∃ k : Nat, k ≤ xs.length ∧ i = .int .i64 k ∧ x ∉ xs.take k) (fun _ i => xs.length - (intOf i).toNat)
  case atStart => exact ⟨0, Nat.zero_le _, rfl, by simp⟩
  case round =>
    obtain ⟨k, hk, rfl, hn⟩ := hrel
    by_cases hlt : k < xs.length
    · obtain ⟨b, o, rfl, _, hc⟩ := h3 (by omega)
      have hc := hc k hlt
      go_wp2
      · go_ret
        have e : (x == xs[k]) = true := by assumption
        have e : x = xs[k] := by simpa using e
        exact ⟨k, rfl, by simp [e], rfl⟩
      · go_round
        case rel =>
          have e : (x == xs[k]) = false := by assumption
          exact ⟨k + 1, by omega, by go_num, not_mem_take_succ hlt hn (by simp at e ⊢; exact fun h => e h.symm)⟩
        case measure => simp [intOf]; omega
    · go_wp2
      go_ret
      have e : xs.take k = xs := List.take_of_length_le (by omega)
      rw [e] at hn
      exact ⟨-1, rfl, by simp [hn], rfl⟩

set_option maxHeartbeats 400000 in
theorem contains_any (v : Value) (xs : List Int) (x : Int) (w : World) (B : Nat) (h : Ints w B v xs) :
    Calls Tryd.prog 78 #[v, .int .i64 x] w fun e w' => e = .returned (.bool (decide (x ∈ xs))) ∧ w = w' := by
  have h' := hide (index_any v xs x w B h)
  go_enter Tryd.func78, Tryd.ntmps78
  go_wp2_with fail
  refine h'.out.mono ?_
  rintro e w' ⟨n, rfl, hn, rfl⟩
  go_wp2_with fail
  go_ret
  exact ⟨rfl, rfl⟩
end Go.Proofs.YtgjepahhbecljaaDoor

namespace Go.Proofs.YtgjepahhbecljaaDoor
open Go Go.RowKit
set_option maxRecDepth 100000

theorem el_ints : ElemOf Tryd.prog 53 3 1 8 := elem_of (z := .int .i64 0) rfl (by kernel_rfl) rfl (by decide) (by decide)
theorem el_rows : ElemOf Tryd.prog 58 53 1 24 := elem_of (z := .slice none 0 0) rfl (by kernel_rfl) rfl (by decide) (by decide)


theorem Ints.take {w : World} {B : Nat} {A : Option Addr} {l c : Nat} {xs : List Int} (h : Ints w B (.slice A l c) xs) (n : Nat) (hn : n ≤ xs.length) : Ints w B (.slice A n c) (xs.take n) := by
  obtain ⟨A', c', hv, h1, h2, h3⟩ := h.open_
  injection hv with e1 e2 e3
  subst e1 e2 e3
  have hl : (xs.take n).length = n := by rw [List.length_take]; omega
  refine ⟨A, c, by rw [hl], by omega, h2, by simp, fun hp => ?_⟩
  obtain ⟨b, o, rfl, hb, hc⟩ := h3 (by omega)
  refine ⟨b, o, rfl, hb, fun j u hu => ?_⟩
  simp only [List.getElem?_map, List.getElem?_take, Option.map_eq_some_iff] at hu
  obtain ⟨x, hx, rfl⟩ := hu
  split at hx
  · obtain ⟨hj, rfl⟩ := List.getElem?_eq_some_iff.1 hx
    exact hc j hj
  · cases hx

def Gives (Q : Value → World → Prop) (e : Ending) (w' : World) : Prop := ∃ v', e = .returned v' ∧ Q v' w'



set_option maxHeartbeats 400000 in
theorem clone_ints (v : Value) (xs : List Int) (w : World) (B : Nat) (h : Ints w B v xs) (hB : B ≤ w.heap.size) (hb : xs.length * 8 ≤ 140737488355328) :
    Calls Tryd.prog 80 #[v] w (Gives fun v' w' => w'.ownsRow w.heap.size 3 1 v' xs.length (xs.map (.int .i64)) ∧ Below w.heap.size w w') := by
  obtain ⟨A, c, rfl, h1, h2, h3⟩ := h.open_
  have H := hide h
  clear h
  have hn := fun w : World => Lib.run_eql_slice_nil (P := Tryd.prog) w 53 3 A xs.length c 0 0 rfl
  cases A with
  | none =>
    have h0 : xs = [] := by
      rcases Nat.eq_zero_or_pos xs.length with h | h
      · exact List.eq_nil_of_length_eq_zero h
      · obtain ⟨b, o, h, _⟩ := h3 h; cases h
    subst h0
    have hn := fun w : World => Lib.run_eql_slice_nil (P := Tryd.prog) w 53 3 none 0 c 0 0 rfl
    go_enter Tryd.func80, Tryd.ntmps80
    go_wp2_with fail
    go_ret
    exact ⟨_, rfl, World.ownsRow_nil _ _ _ _, Below.refl _ _⟩
  | some a =>
    have H2 := hide h3
    clear h3
    go_enter Tryd.func80, Tryd.ntmps80
    have hown : (w.alloc (.cells #[] 3)).ownsRow w.heap.size 3 1 (.slice (some ⟨w.heap.size, 0, none⟩) 0 0) 0 [] := World.ownsRow_made w #[] 0 (Nat.le_refl _) (by decide) rfl
    have hbel : Below w.heap.size w (w.alloc (.cells #[] 3)) := (Below.refl _ _).alloc (Nat.le_refl _) _
    have hsz : w.heap.size ≤ (w.alloc (.cells #[] 3)).heap.size := by simp
    have hr := H.out.below hbel hB
    go_wp2_with (at_builtin; refine wpList_append_rd _ rfl _ _ _ rfl w.heap.size _ _ _ el_ints _ _ _ rfl hown B _ _ _ rfl hr (ints_one _) ?_ hsz ?_)
    · omega
    · intro v' w' hown' hg _
      go_wp2
      go_ret
      exact ⟨v', rfl, hown', hbel.grown hg hsz (by simp [Value.ownBlock])⟩

/-- At most n rows of at most six numbers. -/
def rowsF (l : List (List Int)) (n : Nat) : List (List Int) := (l.take n).map (·.take 6)


end Go.Proofs.YtgjepahhbecljaaDoor

namespace Go.Proofs.YtgjepahhbecljaaDoor
open Go Go.RowKit
set_option maxRecDepth 100000

abbrev TrySt := List Int × List Bool

/-- A server s goes through its shares ns; the state is who has each share, and which shares have been seen. -/
inductive TryR (l : List (List Int)) : Int → List Int → TrySt → Bool → TrySt → Prop where
  | nil (s : Int) (st : TrySt) : TryR l s [] st false st
  | skip {s n : Int} {ns : List Int} {st st' : TrySt} {b : Bool} : (n < 0 ∨ 16 ≤ n ∨ st.2.getD n.toNat false = true) → TryR l s ns st b st' → TryR l s (n :: ns) st b st'
  | free {s n : Int} {ns : List Int} {st : TrySt} : 0 ≤ n → n < 16 → st.2.getD n.toNat false = false → st.1.getD n.toNat 0 < 0 →
      TryR l s (n :: ns) st true (st.1.set n.toNat s, st.2.set n.toNat true)
  | take {s n : Int} {ns : List Int} {st st' : TrySt} : 0 ≤ n → n < 16 → st.2.getD n.toNat false = false → 0 ≤ st.1.getD n.toNat 0 →
      TryR l (st.1.getD n.toNat 0) (l.getD (st.1.getD n.toNat 0).toNat []) (st.1, st.2.set n.toNat true) true st' →
      TryR l s (n :: ns) st true (st'.1.set n.toNat s, st'.2)
  | fail {s n : Int} {ns : List Int} {st st1 st' : TrySt} {b : Bool} : 0 ≤ n → n < 16 → st.2.getD n.toNat false = false → 0 ≤ st.1.getD n.toNat 0 →
      TryR l (st.1.getD n.toNat 0) (l.getD (st.1.getD n.toNat 0).toNat []) (st.1, st.2.set n.toNat true) false st1 →
      TryR l s ns st1 b st' → TryR l s (n :: ns) st b st'

def TryOk (l : List (List Int)) (st : TrySt) : Prop := st.1.length = 16 ∧ st.2.length = 16 ∧ ∀ x ∈ st.1, -1 ≤ x ∧ x < l.length

theorem count_false_set (l : List Bool) (i : Nat) (h : i < l.length) (h' : l.getD i false = false) : (l.set i true).count false + 1 = l.count false := by
  induction l generalizing i with
  | nil => simp at h
  | cons a l ih =>
    cases i with
    | zero =>
      simp at h'
      subst h'
      simp [List.count_cons]
    | succ i =>
      simp at h h'
      rw [List.set_cons_succ, List.count_cons, List.count_cons]
      have := ih i h (by simpa using h')
      omega

theorem TryOk.who {l : List (List Int)} {st : TrySt} (h : TryOk l st) (i : Nat) (hi : i < 16) : -1 ≤ st.1.getD i 0 ∧ st.1.getD i 0 < l.length := by
  have hm : st.1.getD i 0 ∈ st.1 := by
    rw [List.getD_eq_getElem?_getD, List.getElem?_eq_getElem (by have := h.1; omega)]
    exact List.getElem_mem _
  exact h.2.2 _ hm
theorem TryOk.set_ {l : List (List Int)} {st : TrySt} (h : TryOk l st) (i : Nat) (s : Int) (h0 : -1 ≤ s) (hs : s < l.length) : TryOk l (st.1.set i s, st.2) := by
  refine ⟨by simpa using h.1, h.2.1, fun x hx => ?_⟩
  rcases List.mem_or_eq_of_mem_set hx with hx | rfl
  · exact h.2.2 x hx
  · exact ⟨h0, hs⟩
theorem TryOk.mark {l : List (List Int)} {st : TrySt} (h : TryOk l st) (i : Nat) : TryOk l (st.1, st.2.set i true) := ⟨h.1, by simpa using h.2.1, h.2.2⟩

theorem TryR.ok {l : List (List Int)} {s : Int} {ns : List Int} {st st' : TrySt} {b : Bool} (h : TryR l s ns st b st') :
    TryOk l st → 0 ≤ s → s < l.length → TryOk l st' ∧ st'.2.count false ≤ st.2.count false := by
  induction h with
  | nil s st => exact fun h _ _ => ⟨h, Nat.le_refl _⟩
  | skip _ _ ih => exact ih
  | free h0 h1 h2 h3 =>
    intro ho hs hl
    refine ⟨(ho.mark _).set_ _ _ (by omega) hl, ?_⟩
    have := count_false_set _ _ (by have := ho.2.1; omega) h2
    simp only
    omega
  | @take s n ns st st' h0 h1 h2 h3 _ ih =>
    intro ho hs hl
    have hw := ho.who n.toNat (by omega)
    obtain ⟨i1, i2⟩ := ih (ho.mark _) h3 hw.2
    refine ⟨i1.set_ _ _ (by omega) hl, ?_⟩
    have := count_false_set _ _ (by have := ho.2.1; omega) h2
    simp only at i2 ⊢
    omega
  | @fail s n ns st st1 st' b h0 h1 h2 h3 _ _ ih1 ih2 =>
    intro ho hs hl
    have hw := ho.who n.toNat (by omega)
    obtain ⟨i1, i2⟩ := ih1 (ho.mark _) h3 hw.2
    obtain ⟨j1, j2⟩ := ih2 i1 hs hl
    refine ⟨j1, ?_⟩
    have := count_false_set _ _ (by have := ho.2.1; omega) h2
    simp only at i2
    omega

/-- How a call of try ends. -/
def TryPost (l : List (List Int)) (lv : Value) (bm bs B : Nat) (s : Int) (ns : List Int) (st : TrySt) (w : World) (e : Ending) (w' : World) : Prop :=
  ∃ b st', e = .returned (.bool b) ∧ TryR l s ns st b st' ∧ Blk w' bm 94 (lv :: st'.1.map (.int .i64)) ∧ Blk w' bs 95 (st'.2.map .bool) ∧ Below B w w'

set_option maxHeartbeats 2000000 in
theorem try_any (l : List (List Int)) (lv : Value) (bm bs B : Nat) (hne : bm ≠ bs) (hBm : B ≤ bm) (hBs : B ≤ bs) (N : Nat) : ∀ (s : Int) (st : TrySt) (w : World), st.2.count false < N → 0 ≤ s → s < l.length →
    TryOk l st → Rows2 w B lv l → Blk w bm 94 (lv :: st.1.map (.int .i64)) → Blk w bs 95 (st.2.map .bool) →
    Calls Tryd.prog 81 #[.pointer (some ⟨bm, 0, none⟩), .int .i64 s, .pointer (some ⟨bs, 0, none⟩)] w (TryPost l lv bm bs B s (l.getD s.toNat []) st w) := by
  induction N with
  | zero => intro s st w h; omega
  | succ N ih =>
    intro s st w hN hs0 hsl hok hrows hbm hbs
    obtain ⟨s, rfl⟩ := Int.eq_ofNat_of_zero_le hs0
    have hsl' : s < l.length := by omega
    rw [Int.toNat_natCast]
    have el : l.getD s [] = l[s] := by rw [List.getD_eq_getElem?_getD, List.getElem?_eq_getElem hsl']; rfl
    rw [el]
    obtain ⟨A, c, rfl, h1, h2, h3⟩ := hrows.open_
    unfold maxLen at h2
    obtain ⟨b, o, rfl, hbB, hcs⟩ := h3 (by omega)
    obtain ⟨u, hc, hi⟩ := hcs s hsl'
    obtain ⟨A1, c1, rfl, g1, g2, g3⟩ := hi.open_
    unfold maxLen at g2
    have G3 := hide g3
    have HR := hide hrows
    have hc0 := hbm.cell 0
    rw [List.getElem?_cons_zero] at hc0
    have HM := hide hbm
    have HS := hide hbs
    have HOK := hide hok
    have hin := hide ih
    clear el h3 hcs hi g3 hrows hbm hbs hok ih
    go_enter Tryd.func81, Tryd.ntmps81
    go_wp2_with fail
    go_loopw [6, 8, 17] (fun _ _ i wr => ∃ (j : Nat) (stj : TrySt), j ≤ l[s].length ∧ i = .int .i64 j ∧ TryOk l stj ∧ stj.2.count false ≤ st.2.count false ∧
      (∀ b st', TryR l s (l[s].drop j) stj b st' → TryR l s l[s] st b st') ∧
      Blk wr bm 94 (.slice (some ⟨b, o, none⟩) l.length c :: stj.1.map (.int .i64)) ∧ Blk wr bs 95 (stj.2.map .bool) ∧ Below B w wr) (fun _ _ i _ => l[s].length - (intOf i).toNat)
    case atStart => exact ⟨0, st, Nat.zero_le _, rfl, HOK.out, Nat.le_refl _, fun _ _ h => by simpa using h, HM.out, HS.out, Below.refl _ _⟩
    case round =>
      obtain ⟨j, stj, hj, rfl, hokj, hcj, hk, hbm, hbs, hbel⟩ := hrel
      by_cases hjt : j < l[s].length
      · obtain ⟨b1, o1, rfl, hb1, hcs⟩ := G3.out (by omega)
        have hc0 := hcs j hjt
        have hc : wr.cell? ⟨b1, o1 + j, none⟩ = some (.int .i64 l[s][j]) := (hbel.cell (p := ⟨b1, o1 + j, none⟩) hb1).trans hc0
        have ed : l[s].drop j = l[s][j] :: l[s].drop (j + 1) := List.drop_eq_getElem_cons hjt
        rw [ed] at hk
        have HMj := hide hbm
        have HSj := hide hbs
        have HB := hide hbel
        have HK := hide hk
        have HOj := hide hokj
        obtain ⟨n, HX⟩ : ∃ n, Hid (l[s][j] = n) := ⟨_, hide rfl⟩
        rw [HX.out] at hc hk
        have HK := hide hk
        clear hcs hc0 hbm hbs hbel ed hk hokj
        by_cases hn0 : n < 0
        · go_wp2_with fail
          go_roundw
          case rel => exact ⟨j + 1, stj, by omega, by go_num, HOj.out, hcj, fun b st' h => HK.out b st' (.skip (.inl hn0) h), HMj.out, HSj.out, HB.out⟩
          case measure => simp [intOf]; omega
        · by_cases hn1 : 16 ≤ n
          · go_wp2_with fail
            go_roundw
            case rel => exact ⟨j + 1, stj, by omega, by go_num, HOj.out, hcj, fun b st' h => HK.out b st' (.skip (.inr (.inl hn1)) h), HMj.out, HSj.out, HB.out⟩
            case measure => simp [intOf]; omega
          · obtain ⟨n, rfl⟩ := Int.eq_ofNat_of_zero_le (show 0 ≤ n by omega)
            have hn16 : n < 16 := by omega
            rcases hbx : stj.2.getD n false with _ | _
            · have hcx := blk_bool HSj.out n false (by have := HOj.out.2.1; omega) hbx
              have hfx := HSj.out.frozen n
              have HBX := hide hbx
              have hsm : n < stj.2.length := by have := HOj.out.2.1; omega
              have HSn := hide (HSj.out.set_ n (.bool true))
              have HMn := hide (HMj.out.far (p := ⟨bs, n, none⟩) hne (.bool true))
              have hcnt := count_false_set stj.2 n hsm hbx
              have hw := HOj.out.who n hn16
              obtain ⟨t, HT⟩ : ∃ t, Hid (stj.1.getD n 0 = t) := ⟨_, hide rfl⟩
              rw [HT.out] at hw
              have hcw : (wr.setCell ⟨bs, n, none⟩ (.bool true)).cell? ⟨bm, 1 + n, none⟩ = some (.int .i64 t) := by
                rw [HMn.out.cell, Nat.add_comm, List.getElem?_cons_succ, List.getElem?_map, List.getElem?_eq_getElem (by have := HOj.out.1; omega)]
                have := HT.out
                rw [List.getD_eq_getElem?_getD, List.getElem?_eq_getElem (by have := HOj.out.1; omega)] at this
                simp at this
                simp [this]
              have hfw := HMn.out.frozen (1 + n)
              clear hbx
              by_cases ht : t < 0
              · go_wp2_with fail
                go_ret
                refine ⟨true, (stj.1.set n s, stj.2.set n true), rfl, HK.out _ _ (.free (by omega) (by omega) (by simpa using HBX.out) (by rw [Int.toNat_natCast, HT.out]; exact ht)), ?_, ?_, (HB.out.setCell hBs _).setCell hBm _⟩
                · simpa [Nat.add_comm] using HMn.out.set_ (1 + n) (.int .i64 s)
                · simpa using HSn.out.far (p := ⟨bm, 1 + n, none⟩) (Ne.symm hne) (.int .i64 s)
              · obtain ⟨t, rfl⟩ := Int.eq_ofNat_of_zero_le (show 0 ≤ t by omega)
                have hb2 := HB.out.setCell (p := ⟨bs, n, none⟩) hBs (.bool true)
                have hR2 := hide (HR.out.below hb2 (Nat.le_refl _))
                have HB2 := hide hb2
                have HSn' := hide (show Blk (wr.setCell ⟨bs, n, none⟩ (.bool true)) bs 95 ((stj.2.set n true).map .bool) by simpa using HSn.out)
                have hdec : (stj.2.set n true).count false < N := by omega
                have hdec2 : (stj.2.set n true).count false ≤ st.2.count false := by omega
                have htl : (t : Int) < l.length := hw.2
                clear hb2 hw hcnt
                go_wp2_with fail
                refine (hin.out t (stj.1, stj.2.set n true) _ hdec (by omega) htl (HOj.out.mark n) hR2.out HMn.out HSn'.out).mono ?_
                rintro e w' ⟨b, st', rfl, hR, hm, hs, hb⟩
                have hok' := hR.ok (HOj.out.mark n) (by omega) htl
                have HE := hide (show stj.1.getD (Int.toNat (n : Int)) 0 = (t : Int) by simpa using HT.out)
                have HR3 := hide hR
                have HM3 := hide hm
                have HS3 := hide hs
                have HB3 := hide (HB2.out.trans hb)
                have hsz := hb.size
                have HOK3 := hide hok'.1
                have hcnt3 : st'.2.count false ≤ st.2.count false := Nat.le_trans hok'.2 hdec2
                have hm3 := hm.frozen (1 + n)
                obtain ⟨old, hold⟩ : ∃ old, w'.cell? ⟨bm, 1 + n, none⟩ = some old := by
                  rw [hm.cell, Nat.add_comm, List.getElem?_cons_succ, List.getElem?_map, List.getElem?_eq_getElem (by have := HOK3.out.1; omega)]
                  exact ⟨_, rfl⟩
                clear hcw hfw hcx hfx hc hR hm hs hb hok'
                cases b
                · go_wp2_with fail
                  go_roundw
                  case rel =>
                    refine ⟨j + 1, st', by omega, by go_num, HOK3.out, hcnt3, fun b st'' h => HK.out b st'' (.fail (by omega) (by omega) (by simpa using HBX.out) (by rw [HE.out]; omega) ?_ h), HM3.out, HS3.out, HB3.out⟩
                    rw [HE.out]
                    exact HR3.out
                  case measure => simp [intOf]; omega
                · go_wp2_with fail
                  go_ret
                  refine ⟨true, (st'.1.set n s, st'.2), rfl, HK.out _ _ ?_, ?_, ?_, HB3.out.setCell hBm _⟩
                  · have := TryR.take (s := (s : Int)) (ns := l[s].drop (j + 1)) (st := stj) (st' := st') (n := (n : Int)) (by omega) (by omega) (by simpa using HBX.out) (by rw [HE.out]; omega) (by rw [HE.out]; exact HR3.out)
                    simpa using this
                  · simpa [Nat.add_comm] using HM3.out.set_ (1 + n) (.int .i64 s)
                  · exact HS3.out.far (p := ⟨bm, 1 + n, none⟩) (Ne.symm hne) (.int .i64 s)
            · have hcx := blk_bool HSj.out n true (by have := HOj.out.2.1; omega) hbx
              have HBX := hide hbx
              clear hbx
              go_wp2_with fail
              go_roundw
              case rel => exact ⟨j + 1, stj, by omega, by go_num, HOj.out, hcj, fun b st' h => HK.out b st' (.skip (.inr (.inr HBX.out)) h), HMj.out, HSj.out, HB.out⟩
              case measure => simp [intOf]; omega
      · go_wp2_with fail
        go_ret
        refine ⟨false, stj, rfl, hk _ _ ?_, hbm, hbs, hbel⟩
        rw [List.drop_eq_nil_of_le (by omega)]
        exact .nil _ _
end Go.Proofs.YtgjepahhbecljaaDoor

namespace Go.Proofs.YtgjepahhbecljaaDoor
open Go Go.RowKit
set_option maxRecDepth 100000

/-- The first k servers have been tried: who has each share, how many were served. -/
def MatchTo (l : List (List Int)) : Nat → List Int → Nat → Prop
  | 0, who, most => who = List.replicate 16 (-1) ∧ most = 0
  | k + 1, who', most' => ∃ who most b seen', MatchTo l k who most ∧ TryR l k (l.getD k []) (who, List.replicate 16 false) b (who', seen') ∧ most' = most + (if b = true then 1 else 0)

theorem MatchTo.ok {l : List (List Int)} : ∀ {k : Nat} {who : List Int} {most : Nat}, MatchTo l k who most → k ≤ l.length → TryOk l (who, List.replicate 16 false) ∧ most ≤ k
  | 0, who, most, h, _ => by
    obtain ⟨rfl, rfl⟩ := h
    refine ⟨⟨by simp, by simp, fun x hx => ?_⟩, Nat.le_refl _⟩
    have := (List.mem_replicate.1 hx).2
    omega
  | k + 1, who', most', h, hk => by
    obtain ⟨who, most, b, seen', h1, h2, rfl⟩ := h
    obtain ⟨i1, i2⟩ := MatchTo.ok h1 (by omega)
    have := (h2.ok i1 (by omega) (by omega)).1
    refine ⟨⟨this.1, by simp, this.2.2⟩, ?_⟩
    split <;> omega

def MatchPost (l : List (List Int)) (w : World) (e : Ending) (w' : World) : Prop := ∃ who most, e = .returned (.int .i64 (most : Nat)) ∧ MatchTo l l.length who most ∧ Below w.heap.size w w'

set_option maxHeartbeats 2000000 in
theorem match_any (v : Value) (l : List (List Int)) (w : World) (B : Nat) (h : Rows2 w B v l) (hB : B ≤ w.heap.size) :
    Calls Tryd.prog 51 #[v] w (MatchPost l w) := by
  obtain ⟨A, c, rfl, h1, h2, h3⟩ := h.open_
  unfold maxLen at h2
  have HR := hide h
  clear h h3
  go_enter Tryd.func51, Tryd.ntmps51
  go_wp2_with fail
  go_loopw [4, 11] (fun _ i wr => ∃ j : Nat, j ≤ 16 ∧ i = .int .i64 j ∧ Blk wr w.heap.size 94 (.slice A l.length c :: (List.replicate j (-1) ++ List.replicate (16 - j) 0).map (.int .i64)) ∧ Below w.heap.size w wr) (fun _ i _ => 16 - (intOf i).toNat)
  case atStart => exact ⟨0, Nat.zero_le _, rfl, Blk.new w _ _, (Below.refl _ _).alloc (Nat.le_refl _) _⟩
  case round =>
    obtain ⟨j, hj, rfl, hbm, hbel⟩ := hrel
    by_cases hjt : j < 16
    · have hf := hbm.frozen (1 + j)
      obtain ⟨old, hold⟩ : ∃ old, wr.cell? ⟨w.heap.size, 1 + j, none⟩ = some old := by
        rw [hbm.cell, Nat.add_comm, List.getElem?_cons_succ, List.getElem?_map, List.getElem?_eq_getElem (by simp; omega)]
        exact ⟨_, rfl⟩
      have HM := hide hbm
      have HB := hide hbel
      clear hbm hbel
      go_wp2_with fail
      go_roundw
      case rel =>
        refine ⟨j + 1, by omega, by go_num, ?_, HB.out.setCell (by simp) _⟩
        have := HM.out.set_ (1 + j) (.int .i64 (-1))
        have e : ((List.replicate j (-1 : Int) ++ List.replicate (16 - j) 0).set j (-1)) = List.replicate (j + 1) (-1) ++ List.replicate (16 - (j + 1)) 0 := by
          rw [List.set_append_right _ _ (by simp), show 16 - j = (16 - (j + 1)) + 1 from by omega, List.replicate_succ, List.replicate_succ']
          simp
        rw [← e]
        simpa [Nat.add_comm] using this
      case measure => simp [intOf]; omega
    · have ej : j = 16 := by omega
      rw [ej] at hbm
      clear ej
      have HM := hide hbm
      have HB := hide hbel
      clear hbm hbel
      obtain ⟨wo, rfl⟩ : ∃ wo : World, wo = wr := ⟨_, rfl⟩
      go_wp2_with fail
      go_loopw [5, 6, 7, 22] (fun vm _ _ i wr => ∃ (k : Nat) (who : List Int) (most : Nat), k ≤ l.length ∧ i = .int .i64 k ∧ vm = .int .i64 most ∧ MatchTo l k who most ∧ Blk wr w.heap.size 94 (.slice A l.length c :: who.map (.int .i64)) ∧ Below w.heap.size w wr) (fun _ _ _ i _ => l.length - (intOf i).toNat)
      case atStart => exact ⟨0, List.replicate 16 (-1), 0, Nat.zero_le _, rfl, rfl, ⟨rfl, rfl⟩, HM.out, HB.out⟩
      case round =>
        obtain ⟨k, who, most, hk, rfl, rfl, hmt, hbm, hbel⟩ := hrel
        have hok := hmt.ok hk
        have hmk := hok.2
        by_cases hkt : k < l.length
        · have HMT := hide hmt
          have HOK := hide hok.1
          have hlt := hbm.lt
          have hsz := hbel.size
          have HM1 := hide (hbm.alloc (.cells (List.replicate 16 (Value.bool false)).toArray 95))
          have hb1 := hbel.alloc hbel.size (.cells (List.replicate 16 (Value.bool false)).toArray 95)
          have HB1 := hide hb1
          have HR1 := hide ((HR.out.below hb1 hB).more hB)
          have HS1 := hide (Blk.new wr 95 (List.replicate 16 (Value.bool false)))
          clear hmt hok hbm hbel hb1
          go_wp2_with fail
          refine (try_any l (.slice A l.length c) w.heap.size wr.heap.size w.heap.size (by omega) (Nat.le_refl _) hsz 17 (k : Int) (who, List.replicate 16 false) _ (by show List.count false (List.replicate 16 false) < 17; decide) (by omega) (by omega) HOK.out HR1.out HM1.out HS1.out).mono ?_
          rintro e w' ⟨b, st', rfl, hR, hm, hs, hb⟩
          have HR3 := hide hR
          have HM3 := hide hm
          have HB3 := hide (HB1.out.trans hb)
          clear hR hm hs hb
          have HN := hide (show MatchTo l (k + 1) st'.1 (most + (if b = true then 1 else 0)) from ⟨who, most, b, st'.2, HMT.out, by simpa using HR3.out, rfl⟩)
          cases b
          all_goals
            go_wp2_with fail
            go_roundw
            case rel => exact ⟨k + 1, st'.1, _, by omega, by go_num, by first | rfl | go_num, HN.out, HM3.out, HB3.out⟩
            case measure => simp [intOf]; omega
        · have : k = l.length := by omega
          subst this
          go_wp2_with fail
          go_ret
          exact ⟨who, most, rfl, hmt, hbel⟩
end Go.Proofs.YtgjepahhbecljaaDoor

namespace Go.Proofs.YtgjepahhbecljaaDoor
open Go Go.RowKit
set_option maxRecDepth 100000

/-- How many shares a row of pairs (share → server, below 0: nobody) serves. -/
def sz (f : Nat → Int) : Nat := (List.range 16).countP (fun n => decide (0 ≤ f n))

/-- A row of pairs: servers in R, shares not in U, each pair one that there is, no server twice. -/
structure IsM (l : List (List Int)) (R : Nat → Prop) (U : Nat → Prop) (f : Nat → Int) : Prop where
  ok : ∀ n, n < 16 → 0 ≤ f n → R (f n).toNat ∧ (n : Int) ∈ l.getD (f n).toNat [] ∧ ¬ U n
  inj : ∀ n m, n < 16 → m < 16 → 0 ≤ f n → f n = f m → n = m

def IsMax (l : List (List Int)) (R U : Nat → Prop) (k : Nat) : Prop := (∃ f, IsM l R U f ∧ sz f = k) ∧ ∀ f, IsM l R U f → sz f ≤ k

theorem IsMax.uniq {l : List (List Int)} {R U : Nat → Prop} {k k' : Nat} (h : IsMax l R U k) (h' : IsMax l R U k') : k = k' := by
  obtain ⟨⟨f, hf, e⟩, hm⟩ := h
  obtain ⟨⟨f', hf', e'⟩, hm'⟩ := h'
  have := hm _ hf'
  have := hm' _ hf
  omega

theorem countP_set {α : Type} (p : α → Bool) (l : List α) (i : Nat) (a : α) (h : i < l.length) : (l.set i a).countP p + (if p l[i] then 1 else 0) = l.countP p + (if p a then 1 else 0) := by
  induction l generalizing i with
  | nil => simp at h
  | cons b l ih =>
    cases i with
    | zero => simp only [List.set_cons_zero, List.countP_cons, List.getElem_cons_zero]; omega
    | succ i =>
      have := ih i (by simpa using h)
      simp only [List.set_cons_succ, List.countP_cons, List.getElem_cons_succ]
      omega

theorem getD_eq {α : Type} (l : List α) (i : Nat) (d : α) (h : i < l.length) : l.getD i d = l[i] := by
  rw [List.getD_eq_getElem?_getD, List.getElem?_eq_getElem h]; rfl
theorem getD_set {α : Type} (l : List α) (i j : Nat) (a d : α) (h : i < l.length) : (l.set i a).getD j d = if i = j then a else l.getD j d := by
  rw [List.getD_eq_getElem?_getD, List.getElem?_set, List.getD_eq_getElem?_getD]
  split
  · rename_i e; subst e; simp [h]
  · rfl

theorem getD_rep {α : Type} (n : Nat) (a d : α) (h : n < 16) : (List.replicate 16 a).getD n d = a := by
  rw [getD_eq _ _ _ (by rw [List.length_replicate]; exact h), List.getElem_replicate]

theorem TryR.seen {l : List (List Int)} {s : Int} {ns : List Int} {st st' : TrySt} {b : Bool} (h : TryR l s ns st b st') :
    TryOk l st → 0 ≤ s → s < l.length → ∀ n, n < 16 → st.2.getD n false = true → st'.2.getD n false = true := by
  induction h with
  | nil => exact fun _ _ _ _ _ h => h
  | skip _ _ ih => exact ih
  | @free s n ns st h0 h1 h2 h3 =>
    intro ho _ _ m hm h
    rw [getD_set _ _ _ _ _ (by have := ho.2.1; omega)]
    split
    · rfl
    · exact h
  | @take s n ns st st' h0 h1 h2 h3 _ ih =>
    intro ho hs hl m hm h
    have hw := ho.who n.toNat (by omega)
    refine ih (ho.mark _) h3 hw.2 m hm ?_
    rw [getD_set _ _ _ _ _ (by have := ho.2.1; omega)]
    split
    · rfl
    · exact h
  | @fail s n ns st st1 st' b h0 h1 h2 h3 hr _ ih1 ih2 =>
    intro ho hs hl m hm h
    have hw := ho.who n.toNat (by omega)
    refine ih2 (hr.ok (ho.mark _) h3 hw.2).1 hs hl m hm (ih1 (ho.mark _) h3 hw.2 m hm ?_)
    rw [getD_set _ _ _ _ _ (by have := ho.2.1; omega)]
    split
    · rfl
    · exact h

theorem TryR.no {l : List (List Int)} {s : Int} {ns : List Int} {st st' : TrySt} {b : Bool} (h : TryR l s ns st b st') : b = false → st'.1 = st.1 := by
  induction h with
  | nil => exact fun _ => rfl
  | skip _ _ ih => exact ih
  | free => intro h; cases h
  | take => intro h; cases h
  | fail h0 h1 h2 h3 hr _ ih1 ih2 => exact fun hb => (ih2 hb).trans (ih1 rfl)

/-- What a call that serves nobody has seen. -/
theorem TryR.closed {l : List (List Int)} {s : Int} {ns : List Int} {st st' : TrySt} {b : Bool} (h : TryR l s ns st b st') :
    b = false → TryOk l st → 0 ≤ s → s < l.length →
    (∀ n ∈ ns, 0 ≤ n → n < 16 → st'.2.getD n.toNat false = true) ∧
    (∀ n, n < 16 → st'.2.getD n false = true → st.2.getD n false = false → 0 ≤ st.1.getD n 0 ∧ ∀ m ∈ l.getD (st.1.getD n 0).toNat [], 0 ≤ m → m < 16 → st'.2.getD m.toNat false = true) := by
  induction h with
  | nil =>
    refine fun _ _ _ _ => ⟨fun n hn => by simp at hn, fun n hn h h' => ?_⟩
    rw [h] at h'; cases h'
  | @skip s n ns st st' b hx hr ih =>
    intro hb ho hs hl
    obtain ⟨i1, i2⟩ := ih hb ho hs hl
    refine ⟨fun m hm h0 h1 => ?_, i2⟩
    rcases List.mem_cons.1 hm with rfl | hm
    · rcases hx with hx | hx | hx
      · omega
      · omega
      · exact hr.seen ho hs hl _ (by omega) hx
    · exact i1 m hm h0 h1
  | free => intro h; cases h
  | take => intro h; cases h
  | @fail s n ns st st1 st' b h0 h1 h2 h3 hr hr2 ih1 ih2 =>
    intro hb ho hs hl
    have hw := ho.who n.toNat (by omega)
    have ho1 := (hr.ok (ho.mark n.toNat) h3 hw.2).1
    have hlen := ho.2.1
    obtain ⟨i1, i2⟩ := ih1 rfl (ho.mark _) h3 hw.2
    obtain ⟨j1, j2⟩ := ih2 hb ho1 hs hl
    have e1 := hr.no rfl
    simp only at e1 i2
    rw [e1] at j2
    have hn1 : st1.2.getD n.toNat false = true := hr.seen (ho.mark _) h3 hw.2 _ (by omega) (by simp only; rw [getD_set _ _ _ _ _ (by omega)]; simp)
    refine ⟨fun m hm h0 h1 => ?_, fun m hm h h' => ?_⟩
    · rcases List.mem_cons.1 hm with rfl | hm
      · exact hr2.seen ho1 hs hl _ (by omega) hn1
      · exact j1 m hm h0 h1
    · rcases hm1 : st1.2.getD m false with _ | _
      · exact j2 m hm h hm1
      · by_cases e : n.toNat = m
        · subst e
          exact ⟨h3, fun x hx a b => hr2.seen ho1 hs hl _ (by omega) (i1 x hx a b)⟩
        · obtain ⟨k1, k2⟩ := i2 m hm hm1 (by rw [getD_set _ _ _ _ _ (by omega), if_neg e]; exact h')
          exact ⟨k1, fun x hx a b => hr2.seen ho1 hs hl _ (by omega) (k2 x hx a b)⟩

/-- What a call that serves the server leaves. -/
theorem TryR.yes {l : List (List Int)} {s : Int} {ns : List Int} {st st' : TrySt} {b : Bool} (h : TryR l s ns st b st') :
    b = true → TryOk l st → 0 ≤ s → s < l.length → (∀ n ∈ ns, n ∈ l.getD s.toNat []) → (∀ n, n < 16 → 0 ≤ st.1.getD n 0 → (n : Int) ∈ l.getD (st.1.getD n 0).toNat []) →
    (∀ t, 0 ≤ t → st'.1.countP (fun x => x == t) = st.1.countP (fun x => x == t) + (if s = t then 1 else 0)) ∧ st'.1.countP (fun x => decide (0 ≤ x)) = st.1.countP (fun x => decide (0 ≤ x)) + 1 ∧
    (∀ n, n < 16 → st.2.getD n false = true → st'.1.getD n 0 = st.1.getD n 0) ∧ (∀ n, n < 16 → 0 ≤ st'.1.getD n 0 → (n : Int) ∈ l.getD (st'.1.getD n 0).toNat []) := by
  induction h with
  | nil => intro h; cases h
  | skip _ _ ih => exact fun hb ho hs hl hn ha => ih hb ho hs hl (fun n h => hn n (List.mem_cons_of_mem _ h)) ha
  | @free s n ns st h0 h1 h2 h3 =>
    intro _ ho hs hl hn ha
    have hl16 := ho.1
    rw [getD_eq _ _ _ (by omega)] at h3
    refine ⟨fun t ht => ?_, ?_, fun m hm h => ?_, fun m hm h => ?_⟩
    · have := countP_set (fun x => x == t) st.1 n.toNat s (by omega)
      have e : (st.1[n.toNat] == t) = false := by simp; omega
      simp only [e] at this
      simp only [beq_iff_eq] at this
      simpa using this
    · have := countP_set (fun x => decide (0 ≤ x)) st.1 n.toNat s (by omega)
      rw [if_neg (by simp; omega), if_pos (by simpa using hs)] at this
      simpa using this
    · rw [getD_set _ _ _ _ _ (by omega)]
      split
      · rename_i e; subst e; rw [h2] at h; cases h
      · rfl
    · simp only at h ⊢
      rw [getD_set _ _ _ _ _ (by omega)] at h ⊢
      split
      · rename_i e
        have := hn n (List.mem_cons_self ..)
        rw [show (m : Int) = n from by omega]
        exact this
      · rename_i e
        rw [if_neg e] at h
        exact ha m hm h
  | @take s n ns st st' h0 h1 h2 h3 hr ih =>
    intro _ ho hs hl hn ha
    have hw := ho.who n.toNat (by omega)
    have hl16 := ho.1
    obtain ⟨i1, i2, i3, i4⟩ := ih rfl (ho.mark _) h3 hw.2 (fun n h => h) ha
    have hok := (hr.ok (ho.mark _) h3 hw.2).1
    have hl16' := hok.1
    have hkeep := i3 n.toNat (by omega) (by simp only; rw [getD_set _ _ _ _ _ (by have := ho.2.1; omega)]; simp)
    simp only at i1 i2 i3 hkeep
    have hk2 : st'.1[n.toNat]'(by omega) = st.1.getD n.toNat 0 := by rw [← hkeep, getD_eq _ _ _ (by omega)]
    refine ⟨fun t ht => ?_, ?_, fun m hm h => ?_, fun m hm h => ?_⟩
    · have := countP_set (fun x => x == t) st'.1 n.toNat s (by omega)
      rw [i1 t ht, hk2] at this
      simp only [beq_iff_eq] at this ⊢
      omega
    · have := countP_set (fun x => decide (0 ≤ x)) st'.1 n.toNat s (by omega)
      rw [i2, hk2, if_pos (by simpa using h3), if_pos (by simpa using hs)] at this
      simp only at this ⊢
      omega
    · rw [getD_set _ _ _ _ _ (by omega)]
      split
      · rename_i e; subst e; rw [h2] at h; cases h
      · rename_i e
        refine i3 m hm ?_
        rw [getD_set _ _ _ _ _ (by have := ho.2.1; omega), if_neg e]
        exact h
    · simp only at h ⊢
      rw [getD_set _ _ _ _ _ (by omega)] at h ⊢
      split
      · rename_i e
        have := hn n (List.mem_cons_self ..)
        rw [show (m : Int) = n from by omega]
        exact this
      · rename_i e
        rw [if_neg e] at h
        exact i4 m hm h
  | @fail s n ns st st1 st' b h0 h1 h2 h3 hr _ ih1 ih2 =>
    intro hb ho hs hl hn ha
    have hw := ho.who n.toNat (by omega)
    have e1 := hr.no rfl
    simp only at e1
    obtain ⟨i1, i2, i3, i4⟩ := ih2 hb (hr.ok (ho.mark _) h3 hw.2).1 hs hl (fun n h => hn n (List.mem_cons_of_mem _ h)) (by rw [e1]; exact ha)
    rw [e1] at i1 i2 i3
    refine ⟨i1, i2, fun m hm h => i3 m hm (hr.seen (ho.mark _) h3 hw.2 m hm ?_), i4⟩
    simp only
    rw [getD_set _ _ _ _ _ (by have := ho.2.1; omega)]
    split
    · rfl
    · exact h

theorem countP_getElem2 {α : Type} (p : α → Bool) (l : List α) (i j : Nat) (hi : i < l.length) (hj : j < l.length) (hne : i ≠ j) (h : p l[i] = true) (h' : p l[j] = true) : 2 ≤ l.countP p := by
  induction l generalizing i j with
  | nil => simp at hi
  | cons b l ih =>
    have one : ∀ (k : Nat) (hk : k < l.length), p l[k] = true → 1 ≤ l.countP p := fun k hk h => List.countP_pos_iff.2 ⟨_, List.getElem_mem hk, h⟩
    rw [List.countP_cons]
    cases i with
    | zero =>
      cases j with
      | zero => exact absurd rfl hne
      | succ j =>
        simp only [List.getElem_cons_zero, List.getElem_cons_succ] at h h'
        have := one j (by simpa using hj) h'
        rw [if_pos h]; omega
    | succ i =>
      cases j with
      | zero =>
        simp only [List.getElem_cons_zero, List.getElem_cons_succ] at h h'
        have := one i (by simpa using hi) h
        rw [if_pos h']; omega
      | succ j =>
        simp only [List.getElem_cons_succ] at h h'
        have := ih i j (by simpa using hi) (by simpa using hj) (by omega) h h'
        omega

theorem sz_list (who : List Int) (h : who.length = 16) : sz (fun n => who.getD n 0) = who.countP (fun x => decide (0 ≤ x)) := by
  have e : who = (List.range 16).map (fun n => who.getD n 0) := by
    refine List.ext_getElem (by simp [h]) fun i h1 h2 => ?_
    simp only [List.getElem_map, List.getElem_range]
    rw [getD_eq _ _ _ h1]
  conv => rhs; rw [e, List.countP_map]
  rfl

theorem countP_range_one (n0 : Nat → Bool) (h : ∀ n m, n < 16 → m < 16 → n0 n = true → n0 m = true → n = m) : (List.range 16).countP n0 ≤ 1 := by
  rcases Nat.lt_or_ge ((List.range 16).countP n0) 2 with h' | h'
  · omega
  · exfalso
    have : ∀ (N : Nat), N ≤ 16 → 2 ≤ (List.range N).countP n0 → False := by
      intro N
      induction N with
      | zero => intro _ h; simp at h
      | succ N ih =>
        intro hN h2
        rw [List.range_succ, List.countP_append] at h2
        rcases Nat.lt_or_ge ((List.range N).countP n0) 2 with h3 | h3
        · have h4 : 1 ≤ (List.range N).countP n0 := by
            have : List.countP n0 [N] ≤ 1 := by have := List.countP_le_length (p := n0) (l := [N]); simpa using this
            omega
          have h5 : n0 N = true := by
            rcases h6 : n0 N with _ | _
            · simp [h6] at h2; omega
            · rfl
          obtain ⟨x, hx, h7⟩ := List.countP_pos_iff.1 h4
          have hx := List.mem_range.1 hx
          have := h x N (by omega) (by omega) h7 h5
          omega
        · exact ih (by omega) h3
    exact this 16 (Nat.le_refl _) h'

theorem countP_le_add (p q r : Nat → Bool) (L : List Nat) (h : ∀ n ∈ L, p n = true → q n = true ∨ r n = true) : L.countP p ≤ L.countP q + L.countP r := by
  induction L with
  | nil => simp
  | cons a L ih =>
    have := ih fun n hn => h n (List.mem_cons_of_mem _ hn)
    have := h a (List.mem_cons_self ..)
    simp only [List.countP_cons]
    rcases hp : p a with _ | _
    · simp; omega
    · rcases this hp with h | h <;> simp [h] <;> omega

def WhoM (l : List (List Int)) (k : Nat) (who : List Int) (most : Nat) : Prop :=
  who.length = 16 ∧ (∀ t, 0 ≤ t → who.countP (fun x => x == t) ≤ 1) ∧ (∀ t, k ≤ t → who.countP (fun x => x == (t : Int)) = 0) ∧ (∀ n, n < 16 → 0 ≤ who.getD n 0 → (n : Int) ∈ l.getD (who.getD n 0).toNat []) ∧
  who.countP (fun x => decide (0 ≤ x)) = most

theorem WhoM.isM {l : List (List Int)} {k : Nat} {who : List Int} {most : Nat} (h : WhoM l k who most) : IsM l (fun t => t < k) (fun _ => False) (fun n => who.getD n 0) := by
  obtain ⟨h1, h2, h3, h4, h5⟩ := h
  refine ⟨fun n hn h0 => ⟨?_, h4 n hn h0, fun h => h⟩, fun n m hn hm h0 e => ?_⟩
  · rcases Nat.lt_or_ge (who.getD n 0).toNat k with h | h
    · exact h
    · have := h3 _ h
      rw [List.countP_eq_zero] at this
      have h6 := this (who.getD n 0) (by rw [getD_eq _ _ _ (by omega)]; exact List.getElem_mem _)
      exact absurd (by rw [beq_iff_eq]; omega) h6
  · rcases Nat.decEq n m with hne | hne
    · have := countP_getElem2 (fun x => x == who.getD n 0) who n m (by omega) (by omega) hne (by rw [getD_eq _ _ _ (by omega)]; simp) (by rw [e, getD_eq _ _ _ (by omega)]; simp)
      have := h2 _ h0
      omega
    · exact hne

theorem match_isMax (l : List (List Int)) : ∀ (k : Nat) (who : List Int) (most : Nat), MatchTo l k who most → k ≤ l.length → WhoM l k who most ∧ ∀ f, IsM l (fun t => t < k) (fun _ => False) f → sz f ≤ most
  | 0, who, most, h, _ => by
    obtain ⟨rfl, rfl⟩ := h
    refine ⟨⟨by simp, fun t ht => ?_, fun t _ => ?_, fun n hn h => ?_, by decide⟩, fun f hf => ?_⟩
    · rw [List.countP_replicate]; split
      · rename_i h; rw [beq_iff_eq] at h; omega
      · omega
    · rw [List.countP_replicate]; split
      · rename_i h; rw [beq_iff_eq] at h; omega
      · rfl
    · rw [getD_rep _ _ _ hn] at h; omega
    · have : sz f = 0 := by
        unfold sz
        rw [List.countP_eq_zero]
        intro n hn h
        have := (hf.ok n (List.mem_range.1 hn) (by simpa using h)).1
        omega
      omega
  | k + 1, who', most', h, hk => by
    obtain ⟨who, most, b, seen', h1, h2, rfl⟩ := h
    have hok := (MatchTo.ok h1 (by omega)).1
    obtain ⟨⟨w1, w2, w3, w4, w5⟩, hmax⟩ := match_isMax l k who most h1 (by omega)
    have hM := WhoM.isM ⟨w1, w2, w3, w4, w5⟩
    cases b with
    | true =>
      obtain ⟨y1, y2, y3, y4⟩ := h2.yes rfl hok (by omega) (by omega) (fun n h => by simpa using h) w4
      have hok' := (h2.ok hok (by omega) (by omega)).1
      simp only at y1 y2 y4
      refine ⟨⟨hok'.1, fun t ht => ?_, fun t ht => ?_, y4, by rw [y2, w5]; simp⟩, fun f hf => ?_⟩
      · rw [y1 t ht]
        split
        · rename_i e; rw [← e, w3 k (Nat.le_refl _)]; omega
        · exact w2 t ht
      · rw [y1 _ (by omega), w3 t (by omega), if_neg (by omega)]
      · have hf' : IsM l (fun t => t < k) (fun _ => False) (fun n => if f n = k then -1 else f n) := by
          refine ⟨fun n hn h0 => ?_, fun n m hn hm h0 e => ?_⟩
          · split at h0
            · omega
            · rename_i hne
              rw [if_neg hne]
              obtain ⟨a, b, c⟩ := hf.ok n hn h0
              exact ⟨by omega, b, c⟩
          · split at h0
            · omega
            · rename_i hne
              rw [if_neg hne] at e
              split at e
              · omega
              · exact hf.inj n m hn hm h0 e
        have h3 := hmax _ hf'
        have h4 : sz f ≤ sz (fun n => if f n = k then -1 else f n) + (List.range 16).countP (fun n => decide (f n = k)) := by
          refine countP_le_add _ _ _ _ fun n hn h => ?_
          by_cases e : f n = k
          · right; simpa using e
          · left; simp only [if_neg e]; exact h
        have h5 := countP_range_one (fun n => decide (f n = k)) fun n m hn hm h h' => by
          simp at h h'
          exact hf.inj n m hn hm (by omega) (by rw [h, h'])
        simp only [if_true]
        omega
    | false =>
      have e1 := h2.no rfl
      simp only at e1
      subst e1
      refine ⟨⟨w1, w2, fun t ht => w3 t (by omega), w4, by simpa using w5⟩, fun f hf => ?_⟩
      obtain ⟨c1, c2⟩ := h2.closed rfl hok (by omega) (by omega)
      simp only [Int.toNat_natCast] at c1 c2
      have hX : ∀ n, n < 16 → 0 ≤ f n → (f n = k ∨ ∃ n0, n0 < 16 ∧ seen'.getD n0 false = true ∧ who'.getD n0 0 = f n) → seen'.getD n false = true := by
        intro n hn h0 hx
        obtain ⟨_, hadj, _⟩ := hf.ok n hn h0
        rcases hx with hx | ⟨n0, hn0, hs0, hw0⟩
        · rw [hx] at hadj
          have := c1 n (by simpa using hadj) (by omega) (by omega)
          simpa using this
        · have := (c2 n0 hn0 hs0 (getD_rep _ _ _ hn0)).2 n (by rw [hw0]; exact hadj) (by omega) (by omega)
          simpa using this
      have hS : ∀ n, n < 16 → seen'.getD n false = true → 0 ≤ who'.getD n 0 := fun n hn h => (c2 n hn h (getD_rep _ _ _ hn)).1
      classical
      have hf' : IsM l (fun t => t < k) (fun _ => False) (fun n => if 0 ≤ f n ∧ (f n = k ∨ ∃ n0, n0 < 16 ∧ seen'.getD n0 false = true ∧ who'.getD n0 0 = f n) then who'.getD n 0 else f n) := by
        refine ⟨fun n hn h0 => ?_, fun n m hn hm h0 e => ?_⟩
        · split at h0
          · rename_i hx
            rw [if_pos hx]
            exact hM.ok n hn h0
          · rename_i hx
            rw [if_neg hx]
            obtain ⟨a, b, c⟩ := hf.ok n hn h0
            refine ⟨?_, b, c⟩
            have : ¬ f n = k := fun e => hx ⟨h0, .inl e⟩
            omega
        · split at h0
          · rename_i hx
            rw [if_pos hx] at e
            split at e
            · exact hM.inj n m hn hm h0 e
            · rename_i hy
              exact absurd ⟨by omega, .inr ⟨n, hn, hX n hn hx.1 hx.2, e⟩⟩ hy
          · rename_i hx
            rw [if_neg hx] at e
            split at e
            · rename_i hy
              exact absurd ⟨h0, .inr ⟨m, hm, hX m hm hy.1 hy.2, e.symm⟩⟩ hx
            · exact hf.inj n m hn hm h0 e
      have h3 := hmax _ hf'
      have h4 : sz f ≤ sz (fun n => if 0 ≤ f n ∧ (f n = k ∨ ∃ n0, n0 < 16 ∧ seen'.getD n0 false = true ∧ who'.getD n0 0 = f n) then who'.getD n 0 else f n) := by
        refine List.countP_mono_left fun n hn h => ?_
        have hn := List.mem_range.1 hn
        by_cases hx : 0 ≤ f n ∧ (f n = k ∨ ∃ n0, n0 < 16 ∧ seen'.getD n0 false = true ∧ who'.getD n0 0 = f n)
        · simp only [if_pos hx]
          simpa using hS n hn (hX n hn hx.1 hx.2)
        · simp only [if_neg hx]; exact h
      simp only [Bool.false_eq_true, if_false]
      omega

/-- place.Match: as many pairs as there can be. -/
theorem MatchTo.isMax {l : List (List Int)} {who : List Int} {most : Nat} (h : MatchTo l l.length who most) : IsMax l (fun t => t < l.length) (fun _ => False) most := by
  obtain ⟨h1, h2⟩ := match_isMax l _ _ _ h (Nat.le_refl _)
  exact ⟨⟨_, h1.isM, by rw [sz_list _ h1.1]; exact h1.2.2.2.2⟩, h2⟩
end Go.Proofs.YtgjepahhbecljaaDoor

namespace Go.Proofs.YtgjepahhbecljaaDoor
open Go Go.RowKit
set_option maxRecDepth 100000

def mmR : List (List Int) → (Nat → Bool) → Nat
  | [], _ => 0
  | r :: rs, U => r.foldl (fun best n => if 0 ≤ n ∧ n < 16 ∧ U n.toNat = false then max best (1 + mmR rs (fun x => U x || x == n.toNat)) else best) (mmR rs U)

theorem fold_max (c : Int → Prop) [DecidablePred c] (g : Int → Nat) (r : List Int) (a : Nat) :
    a ≤ r.foldl (fun best n => if c n then max best (g n) else best) a ∧ (∀ n ∈ r, c n → g n ≤ r.foldl (fun best n => if c n then max best (g n) else best) a) ∧
    (r.foldl (fun best n => if c n then max best (g n) else best) a = a ∨ ∃ n ∈ r, c n ∧ r.foldl (fun best n => if c n then max best (g n) else best) a = g n) := by
  induction r generalizing a with
  | nil => exact ⟨Nat.le_refl _, fun n hn => by simp at hn, .inl rfl⟩
  | cons x r ih =>
    simp only [List.foldl_cons]
    obtain ⟨i1, i2, i3⟩ := ih (if c x then max a (g x) else a)
    by_cases hx : c x
    · rw [if_pos hx] at i1 i2 i3 ⊢
      refine ⟨by omega, fun n hn hc => ?_, ?_⟩
      · rcases List.mem_cons.1 hn with rfl | hn
        · omega
        · exact i2 n hn hc
      · rcases i3 with i3 | ⟨n, hn, hc, e⟩
        · rw [i3]
          rcases Nat.le_total a (g x) with h | h
          · right; exact ⟨x, List.mem_cons_self .., hx, by omega⟩
          · left; omega
        · right; exact ⟨n, List.mem_cons_of_mem _ hn, hc, e⟩
    · rw [if_neg hx] at i1 i2 i3 ⊢
      refine ⟨i1, fun n hn hc => ?_, ?_⟩
      · rcases List.mem_cons.1 hn with rfl | hn
        · exact absurd hc hx
        · exact i2 n hn hc
      · rcases i3 with i3 | ⟨n, hn, hc, e⟩
        · exact .inl i3
        · right; exact ⟨n, List.mem_cons_of_mem _ hn, hc, e⟩

theorem sz_upd (f : Nat → Int) (n : Nat) (a : Int) (hn : n < 16) (h : f n < 0) (ha : 0 ≤ a) : sz (fun m => if m = n then a else f m) = sz f + 1 := by
  have : ∀ (L : List Nat), L.countP (fun m => decide (0 ≤ (if m = n then a else f m))) = L.countP (fun m => decide (0 ≤ f m)) + L.countP (fun m => m == n) := by
    intro L
    induction L with
    | nil => rfl
    | cons b L ih =>
      simp only [List.countP_cons, ih]
      by_cases e : b = n
      · subst e
        rw [if_pos (by simpa using ha), if_neg (by simpa using h), if_pos (by simp)]
        omega
      · have : (if b = n then a else f b) = f b := if_neg e
        rw [this, if_neg (show ¬ (b == n) = true by simpa using e)]
        omega
  unfold sz
  rw [this]
  have : (List.range 16).countP (fun m => m == n) = 1 := by
    have h1 := countP_range_one (fun m => m == n) fun a b _ _ h h' => by simp at h h'; omega
    have h2 : 1 ≤ (List.range 16).countP (fun m => m == n) := List.countP_pos_iff.2 ⟨n, List.mem_range.2 hn, by simp⟩
    omega
  omega

theorem mmR_isMax (l : List (List Int)) : ∀ (k : Nat) (at_ : Nat) (U : Nat → Bool), l.length - at_ = k → at_ ≤ l.length → IsMax l (fun t => at_ ≤ t ∧ t < l.length) (fun x => U x = true) (mmR (l.drop at_) U) := by
  intro k
  induction k with
  | zero =>
    intro at_ U hk ha
    rw [List.drop_eq_nil_of_le (by omega)]
    refine ⟨⟨fun _ => -1, ⟨fun n _ h => by omega, fun n m _ _ h => by omega⟩, by show sz (fun _ => -1) = 0; decide⟩, fun f hf => ?_⟩
    have : sz f = 0 := by
      unfold sz
      rw [List.countP_eq_zero]
      intro n hn h
      have := (hf.ok n (List.mem_range.1 hn) (by simpa using h)).1
      omega
    omega
  | succ k ih =>
    intro at_ U hk ha
    have hlt : at_ < l.length := by omega
    have ed : l.drop at_ = l[at_] :: l.drop (at_ + 1) := List.drop_eq_getElem_cons hlt
    have el : l.getD at_ [] = l[at_] := by rw [getD_eq _ _ _ hlt]
    rw [ed, mmR]
    obtain ⟨m1, m2, m3⟩ := fold_max (fun n => 0 ≤ n ∧ n < 16 ∧ U n.toNat = false) (fun n => 1 + mmR (l.drop (at_ + 1)) (fun x => U x || x == n.toNat)) l[at_] (mmR (l.drop (at_ + 1)) U)
    generalize List.foldl _ _ _ = best at *
    refine ⟨?_, fun f hf => ?_⟩
    · rcases m3 with m3 | ⟨n, hn, hc, e⟩
      · obtain ⟨⟨f, hf, e⟩, _⟩ := ih (at_ + 1) U (by omega) (by omega)
        exact ⟨f, ⟨fun n hn h0 => by obtain ⟨a, b, c⟩ := hf.ok n hn h0; exact ⟨by omega, b, c⟩, hf.inj⟩, by omega⟩
      · obtain ⟨⟨f, hf, e'⟩, _⟩ := ih (at_ + 1) (fun x => U x || x == n.toNat) (by omega) (by omega)
        have hfn : f n.toNat < 0 := by
          rcases Int.lt_or_le (f n.toNat) 0 with h | h
          · exact h
          · have := (hf.ok n.toNat (by omega) h).2.2
            simp at this
        refine ⟨fun m => if m = n.toNat then at_ else f m, ⟨fun m hm h0 => ?_, fun m m' hm hm' h0 e => ?_⟩, by rw [sz_upd f n.toNat at_ (by omega) hfn (by omega)]; omega⟩
        · by_cases em : m = n.toNat
          · subst em
            simp only [if_true]
            refine ⟨by omega, ?_, by simp [hc.2.2]⟩
            rw [Int.toNat_natCast, el, Int.toNat_of_nonneg hc.1]
            exact hn
          · simp only [if_neg em] at h0 ⊢
            obtain ⟨a, b, c⟩ := hf.ok m hm h0
            refine ⟨by omega, b, fun h => c (by simp [h])⟩
        · by_cases em : m = n.toNat
          · by_cases em' : m' = n.toNat
            · omega
            · simp only [if_pos em, if_neg em'] at e
              have := (hf.ok m' hm' (by omega)).1
              omega
          · simp only [if_neg em] at e h0
            by_cases em' : m' = n.toNat
            · simp only [if_pos em'] at e
              have := (hf.ok m hm h0).1
              omega
            · simp only [if_neg em'] at e
              exact hf.inj m m' hm hm' h0 e
    · clear m3
      by_cases hx : ∃ n, n < 16 ∧ f n = at_
      · obtain ⟨n, hn, e⟩ := hx
        obtain ⟨_, h2, h3⟩ := hf.ok n hn (by omega)
        rw [e, Int.toNat_natCast, el] at h2
        have hUn : U n = false := by simpa using h3
        have := m2 n h2 ⟨by omega, by omega, by simpa using hUn⟩
        obtain ⟨_, hub⟩ := ih (at_ + 1) (fun x => U x || x == n) (by omega) (by omega)
        have hf' : IsM l (fun t => at_ + 1 ≤ t ∧ t < l.length) (fun x => (U x || x == n) = true) (fun m => if m = n then -1 else f m) := by
          refine ⟨fun m hm h0 => ?_, fun m m' hm hm' h0 e' => ?_⟩
          · by_cases em : m = n
            · simp [em] at h0
            · simp only [if_neg em] at h0 ⊢
              obtain ⟨a, b, c⟩ := hf.ok m hm h0
              refine ⟨?_, b, by simpa [em] using c⟩
              have : ¬ f m = at_ := fun e' => em (hf.inj m n hm hn h0 (by rw [e', e]))
              omega
          · by_cases em : m = n
            · simp [em] at h0
            · simp only [if_neg em] at h0 e'
              by_cases em' : m' = n
              · simp only [if_pos em'] at e'; omega
              · simp only [if_neg em'] at e'
                exact hf.inj m m' hm hm' h0 e'
        have h5 := hub _ hf'
        have h6 := sz_upd (fun m => if m = n then -1 else f m) n at_ hn (by simp) (by omega)
        have e7 : (fun m => if m = n then (at_ : Int) else (fun m => if m = n then -1 else f m) m) = f := by
          funext m
          by_cases em : m = n
          · subst em; simp [e]
          · simp [em]
        rw [e7] at h6
        rw [Int.toNat_natCast] at this
        omega
      · obtain ⟨_, hub⟩ := ih (at_ + 1) U (by omega) (by omega)
        have := hub f ⟨fun n hn h0 => by
          obtain ⟨a, b, c⟩ := hf.ok n hn h0
          have : ¬ f n = at_ := fun e => hx ⟨n, hn, e⟩
          exact ⟨by omega, b, c⟩, hf.inj⟩
        omega

theorem IsMax.congr {l l' : List (List Int)} {R R' U U' : Nat → Prop} {k : Nat} (h : IsMax l R U k) (hi : ∀ f, IsM l R U f ↔ IsM l' R' U' f) : IsMax l' R' U' k := by
  obtain ⟨⟨f, hf, e⟩, hm⟩ := h
  exact ⟨⟨f, (hi f).1 hf, e⟩, fun f hf => hm f ((hi f).2 hf)⟩

theorem mmR_max (l : List (List Int)) : IsMax l (fun t => t < l.length) (fun _ => False) (mmR l fun _ => false) := by
  have := mmR_isMax l _ 0 (fun _ => false) rfl (Nat.zero_le _)
  rw [List.drop_zero] at this
  refine this.congr fun f => ⟨fun h => ⟨fun n hn h0 => ?_, h.inj⟩, fun h => ⟨fun n hn h0 => ?_, h.inj⟩⟩
  · obtain ⟨a, b, c⟩ := h.ok n hn h0; exact ⟨a.2, b, fun h => h⟩
  · obtain ⟨a, b, c⟩ := h.ok n hn h0; exact ⟨⟨Nat.zero_le _, a⟩, b, by simp⟩

theorem MatchTo.eq {l : List (List Int)} {who : List Int} {most : Nat} (h : MatchTo l l.length who most) : most = mmR l fun _ => false := h.isMax.uniq (mmR_max l)

set_option maxHeartbeats 400000 in
theorem match_mm (v : Value) (l : List (List Int)) (w : World) (B : Nat) (h : Rows2 w B v l) (hB : B ≤ w.heap.size) :
    Calls Tryd.prog 51 #[v] w fun e w' => e = .returned (.int .i64 (mmR l fun _ => false : Nat)) ∧ Below w.heap.size w w' :=
  (match_any v l w B h hB).mono fun e w' ⟨who, most, he, hm, hb⟩ => ⟨by rw [he, hm.eq], hb⟩
end Go.Proofs.YtgjepahhbecljaaDoor

namespace Go.Proofs.YtgjepahhbecljaaDoor
open Go Go.RowKit
set_option maxRecDepth 100000

set_option maxHeartbeats 1000000 in
theorem wakes19 (w : World) : Calls Tryd.prog 49 #[] w fun e w' => e = .returned (.bool true) ∧ Below w.heap.size w w' := by
  go_enter Tryd.func49, Tryd.ntmps49
  go_wp2_with fail
  have b0 := (((Blk.new w 3 [Value.int .i64 0, Value.int .i64 1]).alloc (.cells #[Value.int .i64 0] 3)).alloc (.cells #[Value.int .i64 0] 3)).alloc (.cells #[Value.slice (some ⟨w.heap.size, 0, none⟩) 2 2, Value.slice (some ⟨w.heap.size + 1, 0, none⟩) 1 1, Value.slice (some ⟨w.heap.size + 1 + 1, 0, none⟩) 1 1] 53)
  have b1 := ((Blk.new (w.alloc (.cells #[Value.int .i64 0, Value.int .i64 1] 3)) 3 [Value.int .i64 0]).alloc (.cells #[Value.int .i64 0] 3)).alloc (.cells #[Value.slice (some ⟨w.heap.size, 0, none⟩) 2 2, Value.slice (some ⟨w.heap.size + 1, 0, none⟩) 1 1, Value.slice (some ⟨w.heap.size + 1 + 1, 0, none⟩) 1 1] 53)
  have b2 := (Blk.new ((w.alloc (.cells #[Value.int .i64 0, Value.int .i64 1] 3)).alloc (.cells #[Value.int .i64 0] 3)) 3 [Value.int .i64 0]).alloc (.cells #[Value.slice (some ⟨w.heap.size, 0, none⟩) 2 2, Value.slice (some ⟨w.heap.size + 1, 0, none⟩) 1 1, Value.slice (some ⟨w.heap.size + 1 + 1, 0, none⟩) 1 1] 53)
  have b3 := Blk.new (((w.alloc (.cells #[Value.int .i64 0, Value.int .i64 1] 3)).alloc (.cells #[Value.int .i64 0] 3)).alloc (.cells #[Value.int .i64 0] 3)) 53 [Value.slice (some ⟨w.heap.size, 0, none⟩) 2 2, Value.slice (some ⟨w.heap.size + 1, 0, none⟩) 1 1, Value.slice (some ⟨w.heap.size + 1 + 1, 0, none⟩) 1 1]
  simp only [World.size_alloc] at b1 b2 b3
  refine (match_mm _ [[0, 1], [0], [0]] _ (w.heap.size + 1 + 1 + 1 + 1) ?_ ?_).mono ?_
  · refine Rows2.of_vals (Rd.of_blk b3 (by omega) 1 3 3 rfl (by decide) (by decide)) fun i hi => ?_
    rcases i with _ | _ | _ | i
    · exact ⟨_, rfl, Ints.of_blk (xs := [0, 1]) b0 (by omega) 2 (by decide) (by decide)⟩
    · exact ⟨_, rfl, Ints.of_blk (xs := [0]) b1 (by omega) 1 (by decide) (by decide)⟩
    · exact ⟨_, rfl, Ints.of_blk (xs := [0]) b2 (by omega) 1 (by decide) (by decide)⟩
    · exfalso; simp at hi; omega
  · simp
  · rintro e w' ⟨rfl, hb⟩
    have e2 : (mmR [[0, 1], [0], [0]] fun _ => false) = 2 := by decide
    rw [e2]
    have HB := hide ((((((Below.refl w.heap.size w).alloc (Nat.le_refl _) _).alloc (by simp) _).alloc (by simp; omega) _).alloc (by simp; omega) _).trans (hb.mono (by simp; omega)))
    clear hb b0 b1 b2 b3 e2
    go_wp2_with fail
    go_ret
    exact ⟨rfl, HB.out⟩
end Go.Proofs.YtgjepahhbecljaaDoor
