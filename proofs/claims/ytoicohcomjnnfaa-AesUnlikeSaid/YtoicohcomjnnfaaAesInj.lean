/- AES of unlike blocks under one key is unlike: the plain law. -/
import Derived.Test.YtoicohcomjnnfaaAesBlkLaw
import Derived.Test.YtoicohcomjnnfaaAesTab
namespace Go.Proofs.Ytoicohcomjnnfaa
open Go Go.RowKit

def vb (a : Int) : BitVec 8 := BitVec.ofInt 8 a
def twB (x : BitVec 8) : BitVec 8 := if x.msb = true then x <<< 1 ^^^ 27#8 else x <<< 1
theorem vb_inj {a b : Int} (ha : 0 ≤ a ∧ a < 256) (hb : 0 ≤ b ∧ b < 256) (h : vb a = vb b) : a = b := by
  have := congrArg BitVec.toNat h
  simp only [vb, BitVec.toNat_ofInt] at this
  omega
theorem vb_x8 {a b : Int} (ha : 0 ≤ a ∧ a < 256) (hb : 0 ≤ b ∧ b < 256) : vb (X8 a b) = vb a ^^^ vb b := by
  obtain ⟨a, rfl⟩ := Int.eq_ofNat_of_zero_le ha.1
  obtain ⟨b, rfl⟩ := Int.eq_ofNat_of_zero_le hb.1
  rw [x8_nat a b (by omega) (by omega)]
  apply BitVec.eq_of_toNat_eq
  have hx : a ^^^ b < 2 ^ 8 := Nat.xor_lt_two_pow (by omega) (by omega)
  simp only [vb, BitVec.ofInt_natCast, BitVec.toNat_xor, BitVec.toNat_ofNat]
  rw [Nat.mod_eq_of_lt hx, Nat.mod_eq_of_lt (by omega), Nat.mod_eq_of_lt (by omega)]
theorem vb_tw_all : ∀ n : Fin 256, vb (tw ((n.val : Nat) : Int)) = twB (vb ((n.val : Nat) : Int)) := by decide +kernel
theorem vb_tw {a : Int} (ha : 0 ≤ a ∧ a < 256) : vb (tw a) = twB (vb a) := by
  obtain ⟨a, rfl⟩ := Int.eq_ofNat_of_zero_le ha.1
  exact vb_tw_all ⟨a, by omega⟩
theorem xlc (x y z : BitVec 8) : x ^^^ (y ^^^ z) = y ^^^ (x ^^^ z) := by rw [← BitVec.xor_assoc, BitVec.xor_comm x y, BitVec.xor_assoc]
theorem xcl (x y : BitVec 8) : x ^^^ (x ^^^ y) = y := by rw [← BitVec.xor_assoc, BitVec.xor_self, BitVec.zero_xor]
theorem xcr (x y : BitVec 8) : x ^^^ y ^^^ y = x := by rw [BitVec.xor_assoc, BitVec.xor_self, BitVec.xor_zero]
theorem twB_xor (x y : BitVec 8) : twB (x ^^^ y) = twB x ^^^ twB y := by
  unfold twB
  rw [BitVec.msb_xor, BitVec.shiftLeft_xor_distrib]
  rcases hx : x.msb with _ | _ <;> rcases hy : y.msb with _ | _ <;> simp only [Bool.xor_false, Bool.false_xor, Bool.xor_true, Bool.not_true, Bool.not_false, if_true, if_false, Bool.false_eq_true, BitVec.xor_self, BitVec.xor_zero, BitVec.zero_xor, BitVec.xor_assoc, BitVec.xor_comm, xlc, xcl]
def mB (a b c d : BitVec 8) : BitVec 8 := twB a ^^^ twB b ^^^ b ^^^ c ^^^ d
def fB (a c : BitVec 8) : BitVec 8 := twB (twB a) ^^^ a ^^^ twB (twB c)
theorem mB_two (a b c d : BitVec 8) : mB (mB a b c d) (mB b c d a) (mB c d a b) (mB d a b c) = fB a c := by
  unfold mB fB
  simp only [twB_xor]
  generalize twB (twB a) = a2
  generalize twB (twB b) = b2
  generalize twB (twB c) = c2
  generalize twB a = a1
  generalize twB b = b1
  generalize twB c = c1
  generalize twB d = d1
  simp only [BitVec.xor_assoc, BitVec.xor_comm, xlc, xcl, BitVec.xor_self, BitVec.xor_zero, BitVec.zero_xor]
theorem fB_two (a c : BitVec 8) : fB (fB a c) (fB c a) = a := by
  unfold fB
  simp only [twB_xor]
  generalize twB (twB (twB (twB a))) = a4
  generalize twB (twB (twB (twB c))) = c4
  generalize twB (twB a) = a2
  generalize twB (twB c) = c2
  simp only [BitVec.xor_assoc, BitVec.xor_comm, xlc, xcl, BitVec.xor_self, BitVec.xor_zero, BitVec.zero_xor]
theorem mB_inj {a b c d a' b' c' d' : BitVec 8} (h0 : mB a b c d = mB a' b' c' d') (h1 : mB b c d a = mB b' c' d' a') (h2 : mB c d a b = mB c' d' a' b') (h3 : mB d a b c = mB d' a' b' c') : a = a' := by
  have f0 : fB a c = fB a' c' := by rw [← mB_two a b c d, ← mB_two a' b' c' d', h0, h1, h2, h3]
  have f2 : fB c a = fB c' a' := by rw [← mB_two c d a b, ← mB_two c' d' a' b', h0, h1, h2, h3]
  rw [← fB_two a c, ← fB_two a' c', f0, f2]

theorem vb_mix {b : List Int} (h : Bytes b) (j : Nat) :
    vb (mixAt b j) = mB (vb (b.getD j 0)) (vb (b.getD (4 * (j / 4) + (j + 1) % 4) 0)) (vb (b.getD (4 * (j / 4) + (j + 2) % 4) 0)) (vb (b.getD (4 * (j / 4) + (j + 3) % 4) 0)) := by
  have g := fun k => h.getD k
  unfold mixAt mB
  rw [vb_x8 (x8_byte (x8_byte (x8_byte (tw_byte (g _)) (tw_byte (g _))) (g _)) (g _)) (g _), vb_x8 (x8_byte (x8_byte (tw_byte (g _)) (tw_byte (g _))) (g _)) (g _),
    vb_x8 (x8_byte (tw_byte (g _)) (tw_byte (g _))) (g _), vb_x8 (tw_byte (g _)) (tw_byte (g _)), vb_tw (g _), vb_tw (g _)]
theorem columns_inj {b b' : List Int} (hb : b.length = 16) (hb' : b'.length = 16) (h : Bytes b) (h' : Bytes b') (e : columnsF b = columnsF b') : b = b' := by
  have em : ∀ j, j < 16 → mixAt b j = mixAt b' j := fun j hj => by rw [← columnsF_get b j hj, ← columnsF_get b' j hj, e]
  refine ext_getD (by omega) fun j hj => ?_
  rw [hb] at hj
  refine vb_inj (h.getD _) (h'.getD _) ?_
  have k0 := congrArg vb (em j hj)
  have k1 := congrArg vb (em (4 * (j / 4) + (j + 1) % 4) (by omega))
  have k2 := congrArg vb (em (4 * (j / 4) + (j + 2) % 4) (by omega))
  have k3 := congrArg vb (em (4 * (j / 4) + (j + 3) % 4) (by omega))
  rw [vb_mix h, vb_mix h'] at k0 k1 k2 k3
  have q1 : (4 * (j / 4) + (j + 1) % 4) / 4 = j / 4 := by omega
  have q2 : (4 * (j / 4) + (j + 2) % 4) / 4 = j / 4 := by omega
  have q3 : (4 * (j / 4) + (j + 3) % 4) / 4 = j / 4 := by omega
  rw [q1, show (4 * (j / 4) + (j + 1) % 4 + 1) % 4 = (j + 2) % 4 by omega, show (4 * (j / 4) + (j + 1) % 4 + 2) % 4 = (j + 3) % 4 by omega, show 4 * (j / 4) + (4 * (j / 4) + (j + 1) % 4 + 3) % 4 = j by omega] at k1
  rw [q2, show (4 * (j / 4) + (j + 2) % 4 + 1) % 4 = (j + 3) % 4 by omega, show 4 * (j / 4) + (4 * (j / 4) + (j + 2) % 4 + 2) % 4 = j by omega, show (4 * (j / 4) + (j + 2) % 4 + 3) % 4 = (j + 1) % 4 by omega] at k2
  rw [q3, show 4 * (j / 4) + (4 * (j / 4) + (j + 3) % 4 + 1) % 4 = j by omega, show (4 * (j / 4) + (j + 3) % 4 + 2) % 4 = (j + 1) % 4 by omega, show (4 * (j / 4) + (j + 3) % 4 + 3) % 4 = (j + 2) % 4 by omega] at k3
  exact mB_inj k0 k1 k2 k3

theorem turn_all : ∀ m : Fin 16, ∃ j : Fin 16, (j.val + 4 * (j.val % 4)) % 16 = m.val := by decide
theorem nodup_getD {l : List Int} (h : l.Nodup) {i j : Nat} (hi : i < l.length) (hj : j < l.length) (e : l.getD i 0 = l.getD j 0) : i = j := by
  rw [getD_el _ _ hi, getD_el _ _ hj] at e
  exact (List.getElem_inj h).1 e
theorem sub_inj {T a a' : List Int} (hT : T.Nodup) (hl : T.length = 256) (ha : a.length = 16) (ha' : a'.length = 16) (h : Bytes a) (h' : Bytes a') (e : subF T a = subF T a') : a = a' := by
  refine ext_getD (by omega) fun m hm => ?_
  rw [ha] at hm
  obtain ⟨j, hj⟩ := turn_all ⟨m, hm⟩
  have e1 : subAt T a j.val = subAt T a' j.val := by rw [← subF_get T a j.val j.isLt, ← subF_get T a' j.val j.isLt, e]
  unfold subAt at e1
  simp only at hj
  rw [hj] at e1
  have b1 := h.getD m
  have b2 := h'.getD m
  have := nodup_getD hT (by rw [hl]; omega) (by rw [hl]; omega) e1
  omega
theorem x8_inj {a b k : Int} (ha : 0 ≤ a ∧ a < 256) (hb : 0 ≤ b ∧ b < 256) (hk : 0 ≤ k ∧ k < 256) (e : X8 a k = X8 b k) : a = b := by
  refine vb_inj ha hb ?_
  have := congrArg vb e
  rw [vb_x8 ha hk, vb_x8 hb hk] at this
  have := congrArg (· ^^^ vb k) this
  simpa [xcr] using this
theorem xorF_inj {a b k : List Int} (ha : a.length = 16) (hb : b.length = 16) (hk : k.length = 16) (h : Bytes a) (h' : Bytes b) (h'' : Bytes k) (e : xorF a k = xorF b k) : a = b := by
  refine ext_getD (by omega) fun j hj => ?_
  refine x8_inj (h.getD j) (h'.getD j) (h''.getD j) ?_
  rw [← xorF_get a k j (by omega) (by omega), ← xorF_get b k j (by omega) (by omega), e]
theorem mid_inj {T a a' : List Int} (hT : T.Nodup) (hB : byteL T) (r : Nat) (ha : a.length = 16) (ha' : a'.length = 16) (h : Bytes a) (h' : Bytes a') (e : midF T a r = midF T a' r) : a = a' := by
  unfold midF at e
  split at e
  · exact sub_inj hT hB.1 ha ha' h h' (columns_inj (subF_len _ _) (subF_len _ _) (subF_bytes hB.2 _) (subF_bytes hB.2 _) e)
  · exact sub_inj hT hB.1 ha ha' h h' e
theorem blockR_inj {T ks a a' : List Int} (hT : T.Nodup) (hB : byteL T) (hk : ks.length = 176) (bk : Bytes ks) (ha : a.length = 16) (ha' : a'.length = 16) (h : Bytes a) (h' : Bytes a') (r : Nat) (hr : r ≤ 10) (e : blockR T ks a r = blockR T ks a' r) : a = a' := by
  induction r with
  | zero => exact xorF_inj ha ha' (rowAt_len hk 0 (by omega)) h h' (rowAt_bytes bk 0) e
  | succ r ih =>
    obtain ⟨l1, b1⟩ := blockR_ok hB.2 hk bk ha h r (by omega)
    obtain ⟨l2, b2⟩ := blockR_ok hB.2 hk bk ha' h' r (by omega)
    exact ih (by omega) (mid_inj hT hB (r + 1) l1 l2 b1 b2 (xorF_inj (midF_len _ _ _) (midF_len _ _ _) (rowAt_len hk (r + 1) (by omega)) (midF_bytes hB.2 _ _) (midF_bytes hB.2 _ _) (rowAt_bytes bk (r + 1)) e))
theorem blockF_inj {T ks a a' : List Int} (hT : T.Nodup) (hB : byteL T) (hk : ks.length = 176) (bk : Bytes ks) (ha : a.length = 16) (ha' : a'.length = 16) (h : Bytes a) (h' : Bytes a') (e : blockF T ks a = blockF T ks a') : a = a' :=
  blockR_inj hT hB hk bk ha ha' h h' 10 (by omega) e
/-- The first round key is the key itself. -/
theorem keyI_row0 (P c : List Int) (r : Nat) (hr : 1 ≤ r) (ks : List Int) (i j : Nat) (hj : j < 16) : (keyI P c r ks i).getD j 0 = ks.getD j 0 := by
  induction i with
  | zero => rfl
  | succ i ih =>
    show ((keyI P c r ks i).set _ _).getD j 0 = _
    have hne : r * 16 + i ≠ j := by omega
    rw [List.getD_eq_getElem?_getD, List.getElem?_set_ne hne, ← List.getD_eq_getElem?_getD, ih]
theorem keyR_row0 (T ks0 : List Int) (r j : Nat) (hj : j < 16) : (keyR T ks0 r).2.getD j 0 = ks0.getD j 0 := by
  induction r with
  | zero => rfl
  | succ r ih =>
    have e : (keyR T ks0 (r + 1)).2 = keyI (rowAt (keyR T ks0 r).2 r) (colF T (rowAt (keyR T ks0 r).2 r) (keyR T ks0 r).1) (r + 1) (keyR T ks0 r).2 16 := rfl
    rw [e, keyI_row0 _ _ (r + 1) (by omega) _ 16 j hj, ih]
theorem keyF_row0 {T key : List Int} (h : key.length = 16) (hT : Bytes T) (hb : Bytes key) : rowAt (keyF T key) 0 = key :=
  ext_getD (by rw [rowAt_len (keyF_len hT h hb) 0 (by omega), h]) fun j hj => by
    rw [rowAt_len (keyF_len hT h hb) 0 (by omega)] at hj
    rw [rowAt_get 0 j hj, Nat.zero_mul, Nat.zero_add, keyF_at, keyR_row0 T _ 10 j hj, keyZ, List.getD_eq_getElem?_getD, List.getElem?_append_left (by omega), List.getD_eq_getElem?_getD]
end Go.Proofs.Ytoicohcomjnnfaa
