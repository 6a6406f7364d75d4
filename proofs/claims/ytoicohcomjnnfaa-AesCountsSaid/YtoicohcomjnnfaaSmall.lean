/- Small helps of the statements: Within, Cut, Copy, Clone, Rows. Condition: an append stays below 2^47 bytes. -/
import Derived.Test.YtoicohcomjnnfaaIn
namespace Go.Proofs.Ytoicohcomjnnfaa
open Go Go.RowKit

theorem el_ints : ElemOf Try.prog 23 3 1 8 := elem_of (z := .int .i64 0) rfl (by kernel_rfl) rfl (by decide) (by decide)
theorem el_rows : ElemOf Try.prog 22 23 1 24 := elem_of (z := .slice none 0 0) rfl (by kernel_rfl) rfl (by decide) (by decide)

/-- Any number as one from 0 to n - 1. -/
def within (v n : Int) : Int := if n < 1 then 0 else v % n

theorem tmod_bounds (v n : Int) (hn : ¬ n < 1) : -n < v.tmod n ∧ v.tmod n < n := by
  have h := Int.tmod_lt_of_pos v (show 0 < n by omega)
  have h' := Int.tmod_lt_of_pos (-v) (show 0 < n by omega)
  rw [Int.neg_tmod] at h'
  exact ⟨by omega, h⟩
theorem tmod_within (v n : Int) (hn : ¬ n < 1) : within v n = if v.tmod n < 0 then v.tmod n + n else v.tmod n := by
  obtain ⟨h1, h2⟩ := tmod_bounds v n hn
  have e : v % n = v.tmod n % n := by
    conv => lhs; rw [← Int.tmod_add_mul_tdiv v n]
    rw [Int.add_mul_emod_self_left]
  unfold within
  rw [if_neg hn, e]
  split
  · rw [← Int.add_emod_right, Int.emod_eq_of_lt (by omega) (by omega)]
  · rw [Int.emod_eq_of_lt (by omega) (by omega)]

set_option maxHeartbeats 400000 in
theorem within_any (v n : Int) (w : World) (h1 : -9223372036854775808 ≤ v) (h2 : v ≤ 9223372036854775807) (h4 : n ≤ 9223372036854775807) :
    Calls Try.prog 20 #[.int .i64 v, .int .i64 n] w fun e w' => e = .returned (.int .i64 (within v n)) ∧ w = w' := by
  go_enter Try.func20, Try.ntmps20
  by_cases hn : n < 1
  · go_wp2
    go_ret
    exact ⟨by simp [within, hn], rfl⟩
  · obtain ⟨h5, h6⟩ := tmod_bounds v n hn
    have H := hide (tmod_within v n hn)
    go_wp2
    · go_ret
      exact ⟨by rw [H.out, if_pos (by assumption)]; rfl, rfl⟩
    · go_ret
      have : 0 ≤ v.tmod n := by assumption
      exact ⟨by rw [H.out, if_neg (by omega)]; rfl, rfl⟩

theorem Ints.take {w : World} {B : Nat} {A : Option Addr} {l c : Nat} {xs : List Int} (h : Ints w B (.slice A l c) xs) (n : Nat) (hn : n ≤ xs.length) : Ints w B (.slice A n c) (xs.take n) := by
  obtain ⟨A', c', hv, h1, h2, h3⟩ := h.open_
  injection hv with e1 e2 e3
  subst e1 e2 e3
  have hl : (xs.take n).length = n := by rw [List.length_take]; omega
  refine ⟨A, c, by rw [hl], by omega, h2, by simp, fun hp => ?_⟩
  obtain ⟨b, o, rfl, hb, hc⟩ := h3 (by omega)
  refine ⟨b, o, rfl, hb, fun j u hu => ?_⟩
  simp only [List.getElem?_map, List.getElem?_take, Option.map_eq_some_iff] at hu
  obtain ⟨x, hx, rfl⟩ := hu
  split at hx
  · obtain ⟨hj, rfl⟩ := List.getElem?_eq_some_iff.1 hx
    exact hc j hj
  · cases hx

def Gives (Q : Value → World → Prop) (e : Ending) (w' : World) : Prop := ∃ v', e = .returned v' ∧ Q v' w'

set_option maxHeartbeats 400000 in
theorem cut_ints (v : Value) (xs : List Int) (n : Int) (w : World) (B : Nat) (h : Ints w B v xs) (h0 : 0 ≤ n) (hn : n ≤ 1000000) :
    Calls Try.prog 15 #[v, .int .i64 n] w (Gives fun v' w' => Ints w B v' (xs.take n.toNat) ∧ w = w') := by
  obtain ⟨n, rfl⟩ := Int.eq_ofNat_of_zero_le h0
  rw [Int.toNat_natCast]
  obtain ⟨A, c, rfl, h1, h2, h3⟩ := h.open_
  unfold maxLen at h2
  have H := hide h
  go_enter Try.func15, Try.ntmps15
  go_wp2
  · go_ret
    exact ⟨_, rfl, H.out.take n (by omega), rfl⟩
  · go_ret
    refine ⟨_, rfl, ?_, rfl⟩
    rw [List.take_of_length_le (by omega)]
    exact H.out

set_option maxHeartbeats 400000 in
theorem copy_ints (v : Value) (xs : List Int) (w : World) (B : Nat) (h : Ints w B v xs) (hb : xs.length * 8 ≤ 140737488355328) :
    Calls Try.prog 21 #[v] w (Gives fun v' w' => w'.ownsRow w.heap.size 3 1 v' xs.length (xs.map (.int .i64)) ∧ Below w.heap.size w w') := by
  go_enter Try.func21, Try.ntmps21
  go_wp2_with (at_builtin; refine wpList_append_rd _ rfl _ _ _ rfl w.heap.size _ _ _ el_ints _ _ _ rfl (World.ownsRow_nil _ _ _ _) B _ _ _ rfl h (ints_one _) ?_ ?_ ?_)
  · omega
  · exact Nat.le_refl _
  · intro v' w' hown hg _
    go_wp2
    go_ret
    exact ⟨v', rfl, hown, (Below.refl _ _).grown hg (Nat.le_refl _) (by simp [Value.ownBlock])⟩

set_option maxHeartbeats 400000 in
theorem clone_ints (v : Value) (xs : List Int) (w : World) (B : Nat) (h : Ints w B v xs) (hB : B ≤ w.heap.size) (hb : xs.length * 8 ≤ 140737488355328) :
    Calls Try.prog 44 #[v] w (Gives fun v' w' => w'.ownsRow w.heap.size 3 1 v' xs.length (xs.map (.int .i64)) ∧ Below w.heap.size w w') := by
  obtain ⟨A, c, rfl, h1, h2, h3⟩ := h.open_
  have H := hide h
  clear h
  have hn := fun w : World => Lib.run_eql_slice_nil (P := Try.prog) w 23 3 A xs.length c 0 0 rfl
  cases A with
  | none =>
    have h0 : xs = [] := by
      rcases Nat.eq_zero_or_pos xs.length with h | h
      · exact List.eq_nil_of_length_eq_zero h
      · obtain ⟨b, o, h, _⟩ := h3 h; cases h
    subst h0
    have hn := fun w : World => Lib.run_eql_slice_nil (P := Try.prog) w 23 3 none 0 c 0 0 rfl
    go_enter Try.func44, Try.ntmps44
    go_wp2_with fail
    go_ret
    exact ⟨_, rfl, World.ownsRow_nil _ _ _ _, Below.refl _ _⟩
  | some a =>
    have H2 := hide h3
    clear h3
    go_enter Try.func44, Try.ntmps44
    have hown : (w.alloc (.cells #[] 3)).ownsRow w.heap.size 3 1 (.slice (some ⟨w.heap.size, 0, none⟩) 0 0) 0 [] := World.ownsRow_made w #[] 0 (Nat.le_refl _) (by decide) rfl
    have hbel : Below w.heap.size w (w.alloc (.cells #[] 3)) := (Below.refl _ _).alloc (Nat.le_refl _) _
    have hsz : w.heap.size ≤ (w.alloc (.cells #[] 3)).heap.size := by simp
    have hr := H.out.below hbel hB
    go_wp2_with (at_builtin; refine wpList_append_rd _ rfl _ _ _ rfl w.heap.size _ _ _ el_ints _ _ _ rfl hown B _ _ _ rfl hr (ints_one _) ?_ hsz ?_)
    · omega
    · intro v' w' hown' hg _
      go_wp2
      go_ret
      exact ⟨v', rfl, hown', hbel.grown hg hsz (by simp [Value.ownBlock])⟩

/-- At most n rows of at most six numbers. -/
def rowsF (l : List (List Int)) (n : Nat) : List (List Int) := (l.take n).map (·.take 6)

set_option maxHeartbeats 800000 in
theorem rows_any (v : Value) (l : List (List Int)) (n : Nat) (w : World) (B : Nat) (h : Rows2 w B v l) (hB : B ≤ w.heap.size) (hn : n ≤ 1000) :
    Calls Try.prog 14 #[v, .int .i64 n] w (Gives fun v' w' => Own2 w' w.heap.size 23 3 v' (rowsF l n) ∧ Below w.heap.size w w') := by
  obtain ⟨A, c, rfl, h1, h2, h3⟩ := h.open_
  unfold maxLen at h2
  have H := hide h
  have H3 := hide h3
  clear h h3
  go_enter Try.func14, Try.ntmps14
  go_wp2_with fail
  go_loopw [5, 6] (fun v' i wr => ∃ k : Nat, k ≤ l.length ∧ k ≤ n ∧ i = .int .i64 k ∧ Own2 wr w.heap.size 23 3 v' (rowsF l k) ∧ Below w.heap.size w wr) (fun _ i _ => l.length - (intOf i).toNat)
  case atStart => exact ⟨0, Nat.zero_le _, Nat.zero_le _, rfl, Own2.nil_ _ _ _ _, Below.refl _ _⟩
  case round =>
    obtain ⟨k, hk, hkn, rfl, hown, hbel⟩ := hrel
    by_cases hlt : k < l.length
    · by_cases hltn : k < n
      · obtain ⟨b, o, rfl, hbB, hcs⟩ := H3.out (by omega)
        obtain ⟨u, hc0, hi0⟩ := hcs k hlt
        have hc : wr.cell? ⟨b, o + k, none⟩ = some u := (hbel.cell (p := ⟨b, o + k, none⟩) (by simp; omega)).trans hc0
        have hi := hi0.below hbel hB
        have HO := hide hown
        have HB := hide hbel
        clear hown hbel hcs hc0 hi0
        go_wp2_with fail
        refine (cut_ints u l[k] 6 wr B hi (by omega) (by omega)).mono ?_
        rintro e w' ⟨u1, rfl, hi1, rfl⟩
        clear hi
        have h6 : (List.take (Int.toNat 6) l[k]).length ≤ 6 := by simp; omega
        obtain ⟨r6, HR⟩ : ∃ r6, Hid (List.take (Int.toNat 6) l[k] = r6) := ⟨_, hide rfl⟩
        rw [HR.out] at h6 hi1
        go_wp2_with fail
        refine (copy_ints u1 r6 wr B hi1 (by omega)).mono ?_
        rintro e w1 ⟨u2, rfl, ho2, hb2⟩
        obtain ⟨A2, c2, rfl⟩ := own_shape ho2
        have HB2 := hide (HB.out.trans (hb2.mono HB.out.size))
        have hsz1 : w.heap.size ≤ wr.heap.size := HB.out.size
        have hsz2 : wr.heap.size ≤ w1.heap.size := hb2.size
        obtain ⟨vs, ho, hvs⟩ := HO.out.keptB hb2
        have HV := hide hvs
        have HO1 := hide ho
        have HO2 := hide (own_more ho2 hsz1)
        have hoA := ho.alloc (.cells #[.slice A2 r6.length c2] 23)
        have hone := hide (own_one ho2)
        have hlk : (rowsF l k).length = k := by unfold rowsF; simp; omega
        have HLK := hide hlk
        have hbyt : ((rowsF l k).length + 1) * 24 ≤ 140737488355328 := by omega
        have hbase : w.heap.size ≤ (w1.alloc (.cells #[.slice A2 r6.length c2] 23)).heap.size := by simp; omega
        clear hi1 ho2 hb2 hlk hvs ho hc
        go_wp2_with (at_builtin; go_must (refine wpList_append_rd _ rfl _ _ _ rfl w.heap.size _ _ _ el_rows _ _ _ rfl hoA (w1.heap.size + 1) _ _ _ rfl (Rd.one w1 23 _) hone.out hbyt hbase ?_))
        intro v' w2 hown2 hg _
        have HX : Hid (Own2 w2 w.heap.size 23 3 v' (rowsF l (k+1)) ∧ Below w.heap.size w w2) := by
          have ho1 := own_keptB HO2.out ((Below.refl _ _).alloc (Nat.le_refl _) (.cells #[.slice A2 r6.length c2] 23))
          have e : rowsF l (k+1) = rowsF l k ++ [r6] := by unfold rowsF; rw [List.take_succ_eq_append_getElem hlt, List.map_append, ← HR.out]; rfl
          rw [e]
          refine ⟨Own2.push (w := w1.alloc (.cells #[.slice A2 r6.length c2] 23)) hoA (fun i hi => ?_) (by decide) ho1 hown2 hg, ?_⟩
          · obtain ⟨u, hu, hx⟩ := HV.out i hi
            exact ⟨u, hu, hx.alloc _⟩
          · exact (HB2.out.alloc (by omega) _).grown hg hbase (own_base hoA)
        clear hown2 hg hoA
        go_wp2_with fail
        go_roundw
        case rel => exact ⟨k + 1, by omega, by omega, by go_num, HX.out.1, HX.out.2⟩
        case measure => simp [intOf]; omega
      · go_wp2_with fail
        go_ret
        have : k = n := by omega
        subst this
        exact ⟨_, rfl, hown, hbel⟩
    · go_wp2_with fail
      go_ret
      have e : rowsF l k = rowsF l n := by unfold rowsF; rw [List.take_of_length_le (by omega), List.take_of_length_le (by omega)]
      rw [e] at hown
      exact ⟨_, rfl, hown, hbel⟩
end Go.Proofs.Ytoicohcomjnnfaa
