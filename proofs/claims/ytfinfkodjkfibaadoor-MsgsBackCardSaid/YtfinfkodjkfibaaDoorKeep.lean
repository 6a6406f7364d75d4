/- The statements' helps at bytes: Cut, Copy, Same. Condition: a copy stays below 2^47 bytes. -/
import Derived.Test.YtfinfkodjkfibaaDoorCells
import Derived.BigQuiet
import Derived.Deep.QuietTactic
import Derived.RegionTactic
namespace Go.Proofs.YtfinfkodjkfibaaDoor
open Go Go.RowKit

theorem Bs.take {w : World} {B : Nat} {A : Option Addr} {l c : Nat} {xs : List Int} (h : Bs w B (.slice A l c) xs) (n : Nat) (hn : n ≤ xs.length) : Bs w B (.slice A n c) (xs.take n) := by
  obtain ⟨A', c', hv, h1, h2, h4, h3⟩ := h
  injection hv with e1 e2 e3
  subst e1 e2 e3
  have hl : (xs.take n).length = n := by rw [List.length_take]; omega
  refine ⟨A, c, by rw [hl], by omega, h2, by simp [u8s], fun hp => ?_⟩
  obtain ⟨b, o, rfl, hb, hc⟩ := h3 (by omega)
  refine ⟨b, o, rfl, hb, fun j u hu => hc j u ?_⟩
  unfold u8s at hu ⊢
  rw [List.getElem?_map, List.getElem?_take] at hu
  rw [List.getElem?_map]
  split at hu
  · exact hu
  · simp at hu
theorem Bs.drop {w : World} {B b o c : Nat} {xs : List Int} (h : Bs w B (.slice (some ⟨b, o, none⟩) xs.length c) xs) (n : Nat) (hn : n ≤ xs.length) : Bs w B (.slice (some ⟨b, o + n, none⟩) (xs.length - n) (c - n)) (xs.drop n) := by
  obtain ⟨A', c', hv, h1, h2, h4, h3⟩ := h
  injection hv with e1 e2 e3
  subst e1 e3
  have hl : (xs.drop n).length = xs.length - n := by rw [List.length_drop]
  refine ⟨_, c - n, by rw [hl], by omega, by omega, by simp [u8s], fun hp => ⟨b, o + n, rfl, ?_, fun j u hu => ?_⟩⟩
  · obtain ⟨b', o', he, hb, _⟩ := h3 (by omega)
    injection he with he; injection he with he1 he2; omega
  · obtain ⟨b', o', he, hb, hc⟩ := h3 (by omega)
    injection he with he; injection he with he1 he2
    subst he1 he2
    have := hc (n + j) u (by unfold u8s at hu ⊢; rw [List.getElem?_map, List.getElem?_drop] at hu; rw [List.getElem?_map]; exact hu)
    rw [Nat.add_assoc]; exact this

theorem getD_el' (l : List Int) (i : Nat) (h : i < l.length) : l.getD i 0 = l[i] := by
  rw [List.getD_eq_getElem?_getD, List.getElem?_eq_getElem h]; rfl

theorem Bs.sliced {w : World} {B : Nat} {A : Option Addr} {l c : Nat} {xs : List Int} (h : Bs w B (.slice A l c) xs) (lo hi : Nat) (h1 : lo ≤ hi) (h2 : hi ≤ xs.length) : Bs w B (sliced A lo hi c 1) ((xs.drop lo).take (hi - lo)) := by
  obtain ⟨A', c', hv, e1, e2, e4, e3⟩ := h
  injection hv with g1 g2 g3
  subst g1 g2 g3
  have hl : ((xs.drop lo).take (hi - lo)).length = hi - lo := by rw [List.length_take, List.length_drop]; omega
  refine ⟨if c = lo then A else A.map (·.add (lo * 1)), c - lo, by rw [hl]; rfl, by omega, by omega, by simp [u8s], fun hp => ?_⟩
  rw [hl] at hp
  obtain ⟨b, o, rfl, hb, hc⟩ := e3 (by omega)
  refine ⟨b, o + lo, ?_, hb, fun j u hu => ?_⟩
  · rw [if_neg (by omega)]
    simp only [Option.map_some, Nat.mul_one]
    congr 1
    unfold Addr.add; split
    · rename_i h; subst h; rfl
    · rfl
  · have := hc (lo + j) u (by
      unfold u8s at hu ⊢
      rw [List.getElem?_map, List.getElem?_take] at hu
      rw [List.getElem?_map]
      split at hu
      · rw [List.getElem?_drop] at hu; exact hu
      · simp at hu)
    rw [Nat.add_assoc]; exact this

theorem wp_append_rdD {P : Program} (w : World) {o : Oper} {a : Act} {K : Act → World → Prop} {Q : Exit → Act → World → Prop} (d : Nat) (hd : o.dst = some d) (s x : Operand) (t : TypeId)
    (ho : o.op = .call { callee := .builtin .append, args := #[s, x], argTypes := #[t, t] })
    (base : Nat) (e : TypeId) (size bytes : Nat) (hE : ElemOf P t e size bytes)
    (v : Value) (n : Nat) (xs : List Value) (hs : a.eval s = v) (hown : w.ownsRow base e size v n xs)
    (B : Nat) (vx : Value) (m : Nat) (news : List Value) (hx : a.eval x = vx) (hr : Rd w B size vx m news) (h1 : ∀ u ∈ news, u.oneCell' = true)
    (hbytes : (n + m) * bytes ≤ 140737488355328) (hbase : base ≤ w.heap.size)
    (h : ∀ v' w', w'.ownsRow base e size v' (n + m) (xs ++ news) → w.grownBy w' v.ownBlock → (v'.ownBlock = v.ownBlock ∨ v'.ownBlock = some w.heap.size) → K (a.put (some d) v') w') : o.wp P a w K Q :=
  wp_append_rd w s x t ho base e size bytes hE v n xs hs hown B vx m news hx hr h1 hbytes hbase fun v' w' a1 a2 a3 => by rw [hd]; exact h v' w' a1 a2 a3

def GivesB (Q : Value → World → Prop) (e : Ending) (w' : World) : Prop := ∃ v', e = .returned v' ∧ Q v' w'

set_option maxHeartbeats 400000 in
theorem cut_bytes (v : Value) (xs : List Int) (n : Int) (w : World) (B : Nat) (h : Bs w B v xs) (h0 : 0 ≤ n) (hn : n ≤ 1000000) :
    Calls Tryd.prog 9 #[v, .int .i64 n] w (GivesB fun v' w' => Bs w B v' (xs.take n.toNat) ∧ w = w') := by
  obtain ⟨n, rfl⟩ := Int.eq_ofNat_of_zero_le h0
  rw [Int.toNat_natCast]
  obtain ⟨A, c, rfl, h1, h2, h3⟩ := h.open_
  unfold maxLen at h2
  have H := hide h
  clear h3 h
  go_enter Tryd.func9, Tryd.ntmps9
  go_wp2
  · go_ret
    exact ⟨_, rfl, H.out.take n (by omega), rfl⟩
  · go_ret
    refine ⟨_, rfl, ?_, rfl⟩
    rw [List.take_of_length_le (by omega)]
    exact H.out

theorem u8s_app (xs ys : List Int) : u8s xs ++ u8s ys = u8s (xs ++ ys) := by simp [u8s]

set_option maxHeartbeats 400000 in
theorem copy_bytes (v : Value) (xs : List Int) (w : World) (B : Nat) (h : Bs w B v xs) (hb : xs.length ≤ 140737488355328) :
    Calls Tryd.prog 27 #[v] w (GivesB fun v' w' => Own8 w' w.heap.size v' xs ∧ Below w.heap.size w w') := by
  go_enter Tryd.func27, Tryd.ntmps27
  go_wp2_with (at_builtin; refine wpList_append_rd _ rfl _ _ _ rfl w.heap.size _ _ _ el_u8 _ _ _ rfl (World.ownsRow_nil _ _ _ _) B _ _ _ rfl h (u8s_one _) ?_ ?_ ?_)
  · omega
  · exact Nat.le_refl _
  · intro v' w' hown hg _
    have HO := hide (show Own8 w' w.heap.size v' xs by simpa [Own8] using hown)
    have HB := hide ((Below.refl w.heap.size w).grown hg (Nat.le_refl _) (by simp [Value.ownBlock]))
    clear hown hg
    go_wp2
    go_ret
    exact ⟨v', rfl, HO.out, HB.out⟩

set_option maxHeartbeats 1000000 in
theorem same_bytes (va vb : Value) (ps qs : List Int) (w : World) (B : Nat) (ha : Bs w B va ps) (hb : Bs w B vb qs) (hB : B ≤ w.heap.size) :
    Calls Tryd.prog 12 #[va, vb] w fun e w' => e = .returned (.bool (decide (ps = qs))) ∧ Below w.heap.size w w' := by
  obtain ⟨RES, HRES⟩ : ∃ r, Hid (decide (ps = qs) = r) := ⟨_, hide rfl⟩
  rw [HRES.out]
  obtain ⟨A, c, rfl, h1, h2, h3⟩ := ha.open_
  obtain ⟨A', c', rfl, h1', h2', h3'⟩ := hb.open_
  unfold maxLen at h2 h2'
  have H3 := hide h3
  have H3' := hide h3'
  clear h3 h3' ha hb
  by_cases hl : ps.length = qs.length
  · have hl' : ((ps.length : Int) != (qs.length : Int)) = false := by simp [hl]
    have HL := hide hl
    have hle : ps.length ≤ qs.length := by omega
    have hge : qs.length ≤ ps.length := by omega
    clear hl
    go_enter Tryd.func12, Tryd.ntmps12
    go_wp2_with fail
    go_loopw [5] (fun i wr => ∃ k : Nat, k ≤ ps.length ∧ i = .int .i64 k ∧ ps.take k = qs.take k ∧ Below w.heap.size w wr) (fun i _ => ps.length - (intOf i).toNat)
    case atStart => exact ⟨0, Nat.zero_le _, rfl, rfl, Below.refl _ _⟩
    case round =>
      obtain ⟨k, hk, rfl, heq, hbel⟩ := hrel
      have HE := hide heq
      have HB := hide hbel
      clear heq hbel
      by_cases hkt : k < ps.length
      · have hkt' : k < qs.length := by omega
        obtain ⟨b, o, rfl, hb, hc⟩ := H3.out (by omega)
        obtain ⟨b', o', rfl, hb', hc'⟩ := H3'.out (by omega)
        obtain ⟨x, HX⟩ : ∃ x, Hid (ps.getD k 0 = x) := ⟨_, hide rfl⟩
        obtain ⟨y, HY⟩ : ∃ x, Hid (qs.getD k 0 = x) := ⟨_, hide rfl⟩
        have hc1 := (HB.out.cell (p := ⟨b, o + k, none⟩) (by simp; omega)).trans (hc k x hkt HX.out)
        have hc3 := (HB.out.cell (p := ⟨b', o' + k, none⟩) (by simp; omega)).trans (hc' k y hkt' HY.out)
        clear hc hc'
        have k0 : (0 : Int) ≤ (k : Int) := by omega
        have k1 : (k : Int) < (ps.length : Int) := by omega
        have k2 : (k : Int) < (qs.length : Int) := by omega
        by_cases hpq : x = y
        · subst hpq
          have hbx : (x != x) = false := by simp
          have HPQ := hide (show ps[k] = qs[k] by rw [← getD_el' _ _ hkt, ← getD_el' _ _ hkt', HX.out, HY.out])
          go_wp2_with fail
          go_quiet (fail)
          go_wp2_with fail
          go_roundw
          case rel => exact ⟨k + 1, by omega, by go_num, by rw [List.take_succ_eq_append_getElem hkt, List.take_succ_eq_append_getElem hkt', HE.out, HPQ.out], below_drewN HB.out _⟩
          case measure => simp [intOf]; omega
        · have hbx : (x != y) = true := by simpa using hpq
          have HR := hide (show RES = false by
            rw [← HRES.out, decide_eq_false_iff_not]
            rintro rfl
            exact hpq (HX.out.symm.trans HY.out))
          clear hpq
          go_wp2_with fail
          go_quiet (fail)
          go_wp2_with fail
          go_ret
          exact ⟨by rw [HR.out]; rfl, below_drewN HB.out _⟩
      · have HR := hide (show RES = true by
          rw [← HRES.out, decide_eq_true_iff]
          have := HE.out
          rwa [List.take_of_length_le (by omega), List.take_of_length_le (by omega)] at this)
        go_wp2_with fail
        go_ret
        exact ⟨by rw [HR.out]; rfl, HB.out⟩
  · have hl' : ((ps.length : Int) != (qs.length : Int)) = true := by simp; omega
    have HR := hide (show RES = false by rw [← HRES.out, decide_eq_false_iff_not]; exact fun e => hl (by rw [e]))
    clear hl
    go_enter Tryd.func12, Tryd.ntmps12
    go_wp2_with fail
    go_ret
    exact ⟨by rw [HR.out]; rfl, Below.refl _ _⟩
end Go.Proofs.YtfinfkodjkfibaaDoor
