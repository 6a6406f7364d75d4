/- What of a capability another one is made of: its keys by hashes; what may only read, only verify; a directory's; secrets. No program in sight.
What may only read, only verify: from less to more no way leads. No program in sight. -/
import Derived.Test.YtgjepahhbecljaaDoorCapRead
import Derived.Test.YtgjepahhbecljaaDoorShaTag
namespace Go.Proofs.YtgjepahhbecljaaDoor
open Go Go.RowKit

def tRead : ByteArray := { data := #[114, 101, 97, 100] }
def tIndex : ByteArray := { data := #[105, 110, 100, 101, 120] }
def tWrite : ByteArray := { data := #[119, 114, 105, 116, 101] }
def tEnable : ByteArray := { data := #[101, 110, 97, 98, 108, 101] }
def tRenew : ByteArray := { data := #[114, 101, 110, 101, 119] }
def tOrder : ByteArray := { data := #[111, 114, 100, 101, 114] }
/-- The key that a tag and a key make. -/
def keyF (s : ByteArray) (k : List Int) : List Int := shortF (strB s) [k]
theorem keyF_len (s : ByteArray) (k : List Int) : (keyF s k).length = 16 := shortF_len _ _
theorem keyF_bytes (s : ByteArray) (k : List Int) : Bytes (keyF s k) := shortF_bytes _ _
/-- What may only read the same. -/
def roF (c : CapD) : CapD := if readF c then (if writeF c then { c with kind := c.kind + 1, key := keyF tRead c.key } else c) else CapD.none_
def roE (c : CapD) : Int := if readF c then 0 else 11
/-- What may only verify it. -/
def voF (c : CapD) : CapD := if (decide c.Valid && (c.kind != 3)) then (if readF c then { roF c with kind := (roF c).kind + 1, key := keyF tIndex (roF c).key } else c) else CapD.none_
def voE (c : CapD) : Int := if (decide c.Valid && (c.kind != 3)) then 0 else 11
def ixF (c : CapD) : List Int := (voF c).key
def slotF (seed fp : List Int) : CapD := ⟨4, keyF tWrite seed, fp, 0, 0, 0, []⟩
def dirOk (c : CapD) : Bool := decide c.Valid && (decide (4 ≤ c.kind) && decide (c.kind ≤ 6))
def dirF (c : CapD) : CapD := if dirOk c then { c with kind := c.kind + 3 } else CapD.none_
def dirE (c : CapD) : Int := if dirOk c then 0 else 11
def enF (c : CapD) (n : Int) : List Int := if writeF c then shortF (strB tEnable) [c.key, putF n 2] else zeros 16
def enE (c : CapD) : Int := if writeF c then 0 else 11
def rnF (a b : List Int) (n : Int) : List Int := shortF (strB tRenew) [a, b, putF n 2]
theorem writeF_kind {c : CapD} (h : writeF c = true) : (c.kind = 4 ∨ c.kind = 7) ∧ c.Valid ∧ c.lit = [] := by
  unfold writeF at h
  simp at h
  refine ⟨h.2, h.1, ?_⟩
  have hv := h.1
  unfold CapD.Valid at hv
  refine List.eq_nil_of_length_eq_zero ?_
  rcases hv with ⟨h1, h2⟩ | ⟨h1, h2⟩ | ⟨h1, h2⟩ <;> omega
theorem valid_kind {c : CapD} (h : c.Valid) : 1 ≤ c.kind ∧ c.kind ≤ 9 := by
  unfold CapD.Valid at h
  rcases h with ⟨h1, h2⟩ | ⟨h1, h2⟩ | ⟨h1, h2⟩ <;> omega
theorem valid_lit {c : CapD} (h : c.Valid) (h3 : c.kind ≠ 3) : c.lit = [] := by
  unfold CapD.Valid at h
  refine List.eq_nil_of_length_eq_zero ?_
  rcases h with ⟨h1, h2⟩ | ⟨h1, h2⟩ | ⟨h1, h2⟩ <;> omega
theorem readF_kind {c : CapD} (h : readF c = true) : c.Valid ∧ c.kind ≠ 2 ∧ c.kind ≠ 6 ∧ c.kind ≠ 9 := by
  unfold readF at h
  simp at h
  exact h
theorem write_read {c : CapD} (h : writeF c = true) : readF c = true := by
  have := writeF_kind h
  unfold readF
  simp
  refine ⟨this.2.1, ?_, ?_, ?_⟩ <;> omega
theorem roF_wf {c : CapD} (h : c.Wf) : (roF c).Wf := by
  unfold roF
  split
  · split
    · exact ⟨keyF_len _ _, keyF_bytes _ _, h.fpL, h.fpB, h.litB⟩
    · exact h
  · exact CapD.none_wf
theorem voF_wf {c : CapD} (h : c.Wf) : (voF c).Wf := by
  unfold voF
  split
  · split
    · have := roF_wf h
      exact ⟨keyF_len _ _, keyF_bytes _ _, this.fpL, this.fpB, this.litB⟩
    · exact h
  · exact CapD.none_wf
theorem roF_lit_le {c : CapD} : (roF c).lit.length ≤ 64 := by
  by_cases hr : readF c = true
  · have hv := (readF_kind hr).1
    have : c.lit.length ≤ 64 := by
      unfold CapD.Valid at hv
      rcases hv with ⟨h1, h2⟩ | ⟨h1, h2⟩ | ⟨h1, h2⟩ <;> omega
    unfold roF
    rw [if_pos hr]
    split <;> exact this
  · unfold roF
    rw [if_neg hr]
    simp [CapD.none_]
theorem voF_lit {c : CapD} : (voF c).lit = [] := by
  unfold voF
  split
  · rename_i h
    simp at h
    have hl := valid_lit h.1 h.2
    by_cases hr : readF c = true
    · rw [if_pos hr]
      show (roF c).lit = []
      unfold roF
      rw [if_pos hr]
      split <;> exact hl
    · rw [if_neg hr]
      exact hl
  · rfl
end Go.Proofs.YtgjepahhbecljaaDoor

namespace Go.Proofs.YtgjepahhbecljaaDoor
open Go Go.RowKit

theorem valid_turn {c : CapD} (h : c.Valid) (h3 : c.kind ≠ 3) (k' : Int) (x : List Int) (hk : (c.kind ≤ 2 ∧ 1 ≤ k' ∧ k' ≤ 2) ∨ (4 ≤ c.kind ∧ 4 ≤ k' ∧ k' ≤ 9)) : CapD.Valid { c with kind := k', key := x } := by
  unfold CapD.Valid at h ⊢
  rcases h with ⟨h1, h2⟩ | ⟨h1, h2⟩ | ⟨h1, h2⟩
  · left
    exact ⟨by show k' = 1 ∨ k' = 2; omega, h2⟩
  · exact absurd h1 h3
  · right; right
    exact ⟨by show 4 ≤ k'; omega, by show k' ≤ 9; omega, h2.2⟩
theorem readF_valid {c : CapD} (h : c.Valid) : readF c = decide (c.kind ≠ 2 ∧ c.kind ≠ 6 ∧ c.kind ≠ 9) := by
  unfold readF
  rw [decide_eq_true h, Bool.eq_iff_iff]
  simp
theorem writeF_valid {c : CapD} (h : c.Valid) : writeF c = decide (c.kind = 4 ∨ c.kind = 7) := by
  unfold writeF
  rw [decide_eq_true h, Bool.eq_iff_iff]
  simp
theorem roF_self {c : CapD} (hr : readF c = true) (hw : writeF c = false) : roF c = c := by
  unfold roF
  rw [if_pos hr, if_neg (by rw [hw]; simp)]
theorem voF_read {c : CapD} (hok : (decide c.Valid && (c.kind != 3)) = true) (hr : readF c = true) : voF c = { roF c with kind := (roF c).kind + 1, key := keyF tIndex (roF c).key } := by
  unfold voF
  rw [if_pos hok, if_pos hr]
theorem readF_none : readF CapD.none_ = false := by decide
/-- What is valid and may not read is its own verifier. -/
theorem vo_self {c : CapD} (h : c.Valid) (h3 : c.kind ≠ 3) (hr : readF c = false) : voF c = c ∧ voE c = 0 := by
  have hok : (decide c.Valid && (c.kind != 3)) = true := by rw [decide_eq_true h]; simp [h3]
  unfold voF voE
  rw [if_pos hok, if_pos hok, if_neg (by rw [hr]; simp)]
  exact ⟨rfl, rfl⟩
theorem ro_not {c : CapD} (hr : readF c = false) : roF c = CapD.none_ ∧ roE c = 11 := by
  unfold roF roE
  rw [if_neg (by rw [hr]; simp), if_neg (by rw [hr]; simp)]
  exact ⟨rfl, rfl⟩
/-- What may only read: it is valid, reads, does not write; it is its own reader. -/
theorem ro_read {c : CapD} (hr : readF c = true) (h3 : c.kind ≠ 3) :
    roE c = 0 ∧ (roF c).Valid ∧ (roF c).kind ≠ 3 ∧ readF (roF c) = true ∧ writeF (roF c) = false ∧ roF (roF c) = roF c ∧ roE (roF c) = 0 ∧ enE (roF c) = 11 ∧ (roF c).fp = c.fp := by
  have hv := (readF_kind hr).1
  have hk := (readF_kind hr).2
  have hb := valid_kind hv
  have main : (roF c).Valid ∧ (roF c).kind ≠ 3 ∧ readF (roF c) = true ∧ writeF (roF c) = false ∧ (roF c).fp = c.fp := by
    unfold roF
    rw [if_pos hr]
    by_cases hw : writeF c = true
    · rw [if_pos hw]
      have hwk := (writeF_kind hw).1
      have hv2 := valid_turn hv h3 (c.kind + 1) (keyF tRead c.key) (by omega)
      refine ⟨hv2, by show c.kind + 1 ≠ 3; omega, ?_, ?_, rfl⟩
      · rw [readF_valid hv2]
        exact decide_eq_true (show c.kind + 1 ≠ 2 ∧ c.kind + 1 ≠ 6 ∧ c.kind + 1 ≠ 9 by omega)
      · rw [writeF_valid hv2]
        exact decide_eq_false (show ¬ (c.kind + 1 = 4 ∨ c.kind + 1 = 7) by omega)
    · rw [if_neg hw]
      exact ⟨hv, h3, hr, by simpa using hw, rfl⟩
  obtain ⟨m1, m2, m3, m4, m5⟩ := main
  have e1 : roE c = 0 := by unfold roE; rw [if_pos hr]
  have e2 : roE (roF c) = 0 := by unfold roE; rw [if_pos m3]
  have e3 : enE (roF c) = 11 := by unfold enE; rw [if_neg (by rw [m4]; simp)]
  have e4 : roF (roF c) = roF c := roF_self m3 m4
  exact ⟨e1, m1, m2, m3, m4, e4, e2, e3, m5⟩
/-- What may only verify: it is valid, neither reads nor writes; it is its own verifier; of a capability and of what may only read it it is one. -/
theorem vo_laws {c : CapD} (h : c.Valid) (h3 : c.kind ≠ 3) :
    voE c = 0 ∧ (voF c).Valid ∧ (voF c).kind ≠ 3 ∧ readF (voF c) = false ∧ writeF (voF c) = false ∧ (voF c).fp = c.fp := by
  have hok : (decide c.Valid && (c.kind != 3)) = true := by rw [decide_eq_true h]; simp [h3]
  have e1 : voE c = 0 := by unfold voE; rw [if_pos hok]
  refine ⟨e1, ?_⟩
  by_cases hr : readF c = true
  · obtain ⟨_, r1, r2, r3, r4, _, _, _, r5⟩ := ro_read hr h3
    have hrk := (readF_kind r3).2
    have hb := valid_kind r1
    have hwk : ¬ ((roF c).kind = 4 ∨ (roF c).kind = 7) := by
      rw [writeF_valid r1] at r4
      exact of_decide_eq_false r4
    have hv2 := valid_turn r1 r2 ((roF c).kind + 1) (keyF tIndex (roF c).key) (by omega)
    have e : voF c = { roF c with kind := (roF c).kind + 1, key := keyF tIndex (roF c).key } := by unfold voF; rw [if_pos hok, if_pos hr]
    rw [e]
    refine ⟨hv2, by show (roF c).kind + 1 ≠ 3; omega, ?_, ?_, r5⟩
    · rw [readF_valid hv2]
      exact decide_eq_false (show ¬ ((roF c).kind + 1 ≠ 2 ∧ (roF c).kind + 1 ≠ 6 ∧ (roF c).kind + 1 ≠ 9) by omega)
    · rw [writeF_valid hv2]
      exact decide_eq_false (show ¬ ((roF c).kind + 1 = 4 ∨ (roF c).kind + 1 = 7) by omega)
  · have hr' : readF c = false := by simpa using hr
    rw [(vo_self h h3 hr').1]
    refine ⟨h, h3, hr', ?_, rfl⟩
    by_cases hw : writeF c = true
    · exact absurd (write_read hw) hr
    · simpa using hw
theorem vo_ro {c : CapD} (hr : readF c = true) (h3 : c.kind ≠ 3) : voF (roF c) = voF c ∧ voE (roF c) = 0 := by
  obtain ⟨_, r1, r2, r3, _, r4, _⟩ := ro_read hr h3
  have hv := (readF_kind hr).1
  have hok : (decide c.Valid && (c.kind != 3)) = true := by rw [decide_eq_true hv]; simp [h3]
  have hok2 : (decide (roF c).Valid && ((roF c).kind != 3)) = true := by rw [decide_eq_true r1]; simp [r2]
  constructor
  · rw [voF_read hok2 r3, r4, voF_read hok hr]
  · unfold voE
    rw [if_pos hok2]
theorem lit_laws {c : CapD} (h : c.Valid) (h3 : c.kind = 3) : voE c = 11 ∧ voF c = CapD.none_ ∧ readF c = true ∧ roF c = c ∧ roE c = 0 := by
  have hr : readF c = true := by
    rw [readF_valid h]
    exact decide_eq_true (by omega)
  have hw : ¬ writeF c = true := by
    rw [writeF_valid h]
    simp
    omega
  have hok : ¬ (decide c.Valid && (c.kind != 3)) = true := by simp [h3]
  refine ⟨?_, ?_, hr, ?_, ?_⟩
  · unfold voE; rw [if_neg hok]
  · unfold voF; rw [if_neg hok]
  · unfold roF; rw [if_pos hr, if_neg hw]
  · unfold roE; rw [if_pos hr]
end Go.Proofs.YtgjepahhbecljaaDoor
