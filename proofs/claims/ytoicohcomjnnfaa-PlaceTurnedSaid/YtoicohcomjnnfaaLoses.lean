/- place.Loses and the reference's unlike, Loses: what each computes. No condition. -/
import Derived.Test.YtoicohcomjnnfaaSmall
namespace Go.Proofs.Ytoicohcomjnnfaa
open Go Go.RowKit

def lsStep (g : Bool) (st : List Bool × Nat) (x : Int) : List Bool × Nat :=
  if g = true ∧ 0 ≤ x ∧ x < 16 ∧ st.1.getD x.toNat false = false then (st.1.set x.toNat true, st.2 + 1) else st
def lsRow (gone : List Int) (st : List Bool × Nat) (p : List Int × Nat) : List Bool × Nat := p.1.foldl (lsStep (!decide ((p.2 : Int) ∈ gone))) st
def lsAll (gone : List Int) (l : List (List Int)) : List Bool × Nat := l.zipIdx.foldl (lsRow gone) (List.replicate 16 false, 0)

theorem count_set_true (l : List Bool) (i : Nat) (h : i < l.length) (h' : l.getD i false = false) : (l.set i true).count true = l.count true + 1 := by
  induction l generalizing i with
  | nil => simp at h
  | cons a l ih =>
    cases i with
    | zero =>
      simp at h'
      subst h'
      simp [List.count_cons]
    | succ i =>
      simp at h h'
      rw [List.set_cons_succ, List.count_cons, List.count_cons, ih i h (by simpa using h')]
      omega
def LsInv (st : List Bool × Nat) : Prop := st.1.length = 16 ∧ st.2 = st.1.count true
theorem LsInv.le {st : List Bool × Nat} (h : LsInv st) : st.2 ≤ 16 := by have := List.count_le_length (a := true) (l := st.1); have := h.1; have := h.2; omega
theorem lsStep_inv (g : Bool) (st : List Bool × Nat) (x : Int) (h : LsInv st) : LsInv (lsStep g st x) := by
  unfold lsStep
  split
  · rename_i hc
    exact ⟨by simpa using h.1, by have := count_set_true st.1 x.toNat (by have := h.1; omega) hc.2.2.2; have := h.2; simp; omega⟩
  · exact h
theorem lsFold_inv (g : Bool) (xs : List Int) (st : List Bool × Nat) (h : LsInv st) : LsInv (xs.foldl (lsStep g) st) := by
  induction xs generalizing st with
  | nil => exact h
  | cons x xs ih => exact ih _ (lsStep_inv g st x h)
theorem lsRows_inv (gone : List Int) (l : List (List Int × Nat)) (st : List Bool × Nat) (h : LsInv st) : LsInv (l.foldl (lsRow gone) st) := by
  induction l generalizing st with
  | nil => exact h
  | cons x xs ih => exact ih _ (lsFold_inv _ _ _ h)
theorem lsInv0 : LsInv (List.replicate 16 false, 0) := ⟨by decide, by decide⟩

def LsRel (w : World) (st : List Bool × Nat) (vn : Value) (wr : World) : Prop :=
  vn = .int .i64 st.2 ∧ Blk wr w.heap.size 60 (st.1.map .bool) ∧ Below w.heap.size w wr

theorem zip_getElem (l : List (List Int)) (k : Nat) (hk : k < l.length) : (l.zipIdx)[k]'(by simpa using hk) = (l[k], k) := by simp

def losB (gone : List Int) (l : List (List Int)) (k : Int) : Bool := decide (((lsAll gone l).2 : Int) < k)

set_option maxHeartbeats 2000000 in
theorem loses_any (v vg : Value) (l : List (List Int)) (gone : List Int) (kk : Int) (w : World) (B : Nat) (h : Rows2 w B v l) (hg : Ints w B vg gone) (hB : B ≤ w.heap.size) :
    Calls Try.prog 16 #[v, .int .i64 kk, vg] w (fun e w' => e = .returned (.bool (losB gone l kk)) ∧ Below w.heap.size w w') := by
  obtain ⟨A, c, rfl, h1, h2, h3⟩ := h.open_
  unfold maxLen at h2
  have HG := hide hg
  have H3 := hide h3
  clear h h3 hg
  go_enter Try.func16, Try.ntmps16
  go_wp2_with fail
  go_loopw [8, 9, 10, 12, 15, 22] (fun vn _ _ _ i _ wr => ∃ k : Nat, k ≤ l.length ∧ i = .int .i64 k ∧ LsRel w ((l.zipIdx.take k).foldl (lsRow gone) (List.replicate 16 false, 0)) vn wr) (fun _ _ _ _ i _ _ => l.length - (intOf i).toNat)
  case atStart => exact ⟨0, Nat.zero_le _, rfl, rfl, Blk.new w _ _, (Below.refl _ _).alloc (Nat.le_refl _) _⟩
  case round =>
    obtain ⟨k, hk, rfl, hR⟩ := hrel
    by_cases hlt : k < l.length
    · obtain ⟨b, o, rfl, hbB, hcs⟩ := H3.out (by omega)
      obtain ⟨u, hc0, hi0⟩ := hcs k hlt
      obtain ⟨rfl, hbk, hbel⟩ := hR
      have hc : wr.cell? ⟨b, o + k, none⟩ = some u := (hbel.cell (p := ⟨b, o + k, none⟩) (by simp; omega)).trans hc0
      obtain ⟨A1, c1, rfl, g1, g2, g3⟩ := hi0.open_
      unfold maxLen at g2
      have G3 := hide g3
      obtain ⟨st, HST⟩ : ∃ st, Hid ((l.zipIdx.take k).foldl (lsRow gone) (List.replicate 16 false, 0) = st) := ⟨_, hide rfl⟩
      rw [HST.out] at hbk ⊢
      have hinv : LsInv st := by rw [← HST.out]; exact lsRows_inv _ _ _ lsInv0
      have HI := hide hinv
      have HB := hide hbel
      have HK := hide hbk
      clear hbel hcs hc0 hi0 hbk g3 hinv
      obtain ⟨wo, rfl⟩ : ∃ wo : World, wo = wr := ⟨_, rfl⟩
      go_wp2_with fail
      go_loopw [8, 12, 22] (fun vn _ i wr => ∃ j : Nat, j ≤ l[k].length ∧ i = .int .i64 j ∧ LsRel w ((l[k].take j).foldl (lsStep (!decide ((k : Int) ∈ gone))) st) vn wr) (fun _ _ i _ => l[k].length - (intOf i).toNat)
      case atStart => exact ⟨0, Nat.zero_le _, rfl, rfl, HK.out, HB.out⟩
      case round =>
        obtain ⟨j, hj, rfl, hR⟩ := hrel
        obtain ⟨rfl, hbk, hbel⟩ := hR
        obtain ⟨st', HST'⟩ : ∃ st', Hid ((l[k].take j).foldl (lsStep (!decide ((k : Int) ∈ gone))) st = st') := ⟨_, hide rfl⟩
        rw [HST'.out] at hbk ⊢
        have hinv : LsInv st' := by rw [← HST'.out]; exact lsFold_inv _ _ _ HI.out
        have hle := hinv.le
        have HI' := hide hinv
        by_cases hjt : j < l[k].length
        · obtain ⟨b1, o1, rfl, hb1, hcs⟩ := G3.out (by omega)
          have hc0 := hcs j hjt
          have hc : wr.cell? ⟨b1, o1 + j, none⟩ = some (.int .i64 l[k][j]) := (hbel.cell (p := ⟨b1, o1 + j, none⟩) (by simp; omega)).trans hc0
          have hG := hide (HG.out.below hbel hB)
          have HB := hide hbel
          have HK := hide hbk
          have hst := hide (foldl_take_succ (lsStep (!decide ((k : Int) ∈ gone))) st l[k] j hjt)
          clear hcs hc0 hbel hbk hinv
          obtain ⟨x, HX⟩ : ∃ x, Hid (l[k][j] = x) := ⟨_, hide rfl⟩
          rw [HX.out] at hc
          go_wp2_with fail
          refine (contains_any vg gone (k : Int) wr B hG.out).mono ?_
          rintro e w' ⟨rfl, rfl⟩
          by_cases hin : (k : Int) ∈ gone
          · have hb : decide ((k : Int) ∈ gone) = true := by simpa using hin
            rw [hb]
            have hfin := hide (show lsStep (!decide ((k : Int) ∈ gone)) st' x = st' by simp [lsStep, hin])
            clear hb
            go_wp2_with fail
            go_roundw
            case rel => exact ⟨j + 1, by omega, by go_num, by rw [hst.out, HST'.out, HX.out, hfin.out]; exact ⟨rfl, HK.out, HB.out⟩⟩
            case measure => simp [intOf]; omega
          · have hb : decide ((k : Int) ∈ gone) = false := by simpa using hin
            rw [hb]
            have hb := hide hb
            by_cases hx0 : 0 ≤ x
            · by_cases hx1 : x < 16
              · have hfx := HK.out.frozen x.toNat
                rcases hbx : st'.1.getD x.toNat false with _ | _
                · have hcx : wr.cell? ⟨w.heap.size, x.toNat, none⟩ = some (.bool false) := blk_bool HK.out _ _ (by have := HI'.out.1; omega) hbx
                  have hfin := hide (show lsStep (!decide ((k : Int) ∈ gone)) st' x = (st'.1.set x.toNat true, st'.2 + 1) by unfold lsStep; rw [if_pos ⟨by simpa using hin, hx0, hx1, hbx⟩])
                  clear hbx
                  go_wp2_with fail
                  go_roundw
                  case rel => exact ⟨j + 1, by omega, by go_num, by rw [hst.out, HST'.out, HX.out, hfin.out]; exact ⟨by go_num, by simpa using HK.out.set_ x.toNat (.bool true), HB.out.setCell (by simp) _⟩⟩
                  case measure => simp [intOf]; omega
                · have hcx : wr.cell? ⟨w.heap.size, x.toNat, none⟩ = some (.bool true) := blk_bool HK.out _ _ (by have := HI'.out.1; omega) hbx
                  have hfin := hide (show lsStep (!decide ((k : Int) ∈ gone)) st' x = st' by unfold lsStep; rw [hbx]; simp)
                  clear hbx
                  go_wp2_with fail
                  go_roundw
                  case rel => exact ⟨j + 1, by omega, by go_num, by rw [hst.out, HST'.out, HX.out, hfin.out]; exact ⟨rfl, HK.out, HB.out⟩⟩
                  case measure => simp [intOf]; omega
              · have hfin := hide (show lsStep (!decide ((k : Int) ∈ gone)) st' x = st' by simp [lsStep]; omega)
                go_wp2_with fail
                go_roundw
                case rel => exact ⟨j + 1, by omega, by go_num, by rw [hst.out, HST'.out, HX.out, hfin.out]; exact ⟨rfl, HK.out, HB.out⟩⟩
                case measure => simp [intOf]; omega
            · have hfin := hide (show lsStep (!decide ((k : Int) ∈ gone)) st' x = st' by simp [lsStep]; omega)
              go_wp2_with fail
              go_roundw
              case rel => exact ⟨j + 1, by omega, by go_num, by rw [hst.out, HST'.out, HX.out, hfin.out]; exact ⟨rfl, HK.out, HB.out⟩⟩
              case measure => simp [intOf]; omega
        · go_wp2_with fail
          have e : l[k].take j = l[k] := List.take_of_length_le (by omega)
          rw [e] at HST'
          have hz := foldl_take_succ (lsRow gone) (List.replicate 16 false, 0) l.zipIdx k (by simpa using hlt)
          rw [zip_getElem l k hlt, HST.out] at hz
          go_roundw
          case rel => exact ⟨k + 1, by omega, by go_num, by rw [hz]; show _ = Value.int .i64 ((l[k].foldl (lsStep (!decide ((k : Int) ∈ gone))) st).2 : Int); rw [HST'.out], by rw [hz]; show Blk wr w.heap.size _ ((l[k].foldl (lsStep (!decide ((k : Int) ∈ gone))) st).1.map .bool); rw [HST'.out]; exact hbk, hbel⟩
          case measure => simp [intOf]; omega
    · obtain ⟨rfl, hbk, hbel⟩ := hR
      have e : (l.zipIdx.take k) = l.zipIdx := by rw [List.take_of_length_le (by simp; omega)]
      rw [e] at hbk ⊢
      clear e
      go_wp2_with fail
      go_ret
      exact ⟨rfl, hbel⟩
end Go.Proofs.Ytoicohcomjnnfaa
