/- The keys of the rounds: the plain law.
A block's rounds: the plain law.
The stream: the plain law.
The stream: twice is itself, in pieces it is the whole. -/
import Derived.Test.YthdjgebbjogmiaaDoorJoin13
import Derived.Test.YthdjgebbjogmiaaDoorAesCols
namespace Go.Proofs.YthdjgebbjogmiaaDoor
open Go Go.RowKit
set_option maxRecDepth 100000

def colF (T P : List Int) (rc : Int) : List Int :=
 [X8 (T.getD (P.getD 13 0).toNat 0) rc, T.getD (P.getD 14 0).toNat 0, T.getD (P.getD 15 0).toNat 0, T.getD (P.getD 12 0).toNat 0]
/-- i cells of row r, laid into ks. -/
def keyI (P c : List Int) (r : Nat) (ks : List Int) : Nat → List Int
 | 0 => ks
 | i + 1 => (keyI P c r ks i).set (r * 16 + i) (X8 (P.getD i 0) (if i < 4 then c.getD i 0 else (keyI P c r ks i).getD (r * 16 + i - 4) 0))
def rowAt (ks : List Int) (r : Nat) : List Int := (ks.drop (r * 16)).take 16
def keyR (T : List Int) (ks0 : List Int) : Nat → Int × List Int
 | 0 => (1, ks0)
 | r + 1 => (tw (keyR T ks0 r).1, keyI (rowAt (keyR T ks0 r).2 r) (colF T (rowAt (keyR T ks0 r).2 r) (keyR T ks0 r).1) (r + 1) (keyR T ks0 r).2 16)
def keyZ (key : List Int) : List Int := key ++ List.replicate 160 0
def aesKeyF (T key : List Int) : List Int := (keyR T (keyZ key) 10).2

theorem keyI_len (P c : List Int) (r : Nat) (ks : List Int) (i : Nat) : (keyI P c r ks i).length = ks.length := by
 induction i with
 | zero => rfl
 | succ i ih => show ((keyI P c r ks i).set _ _).length = _; rw [List.length_set, ih]
theorem colF_bytes {T P : List Int} {rc : Int} (hT : Bytes T) (h : 0 ≤ rc ∧ rc < 256) : Bytes (colF T P rc) := by
 intro x hx
 simp only [colF, List.mem_cons, List.not_mem_nil, or_false] at hx
 rcases hx with rfl | rfl | rfl | rfl
 · exact x8_byte (hT.getD _) h
 · exact hT.getD _
 · exact hT.getD _
 · exact hT.getD _
theorem keyI_bytes {P c : List Int} (r : Nat) {ks : List Int} (hP : Bytes P) (hc : Bytes c) (hk : Bytes ks) (i : Nat) : Bytes (keyI P c r ks i) := by
 induction i with
 | zero => exact hk
 | succ i ih =>
  have hv : 0 ≤ X8 (P.getD i 0) (if i < 4 then c.getD i 0 else (keyI P c r ks i).getD (r * 16 + i - 4) 0) ∧ X8 (P.getD i 0) (if i < 4 then c.getD i 0 else (keyI P c r ks i).getD (r * 16 + i - 4) 0) < 256 := by
   refine x8_byte (hP.getD _) ?_
   split
   · exact hc.getD _
   · exact ih.getD _
  exact ih.set_ _ hv.1 hv.2
theorem rowAt_bytes {ks : List Int} (h : Bytes ks) (r : Nat) : Bytes (rowAt ks r) := fun x hx => h x (List.mem_of_mem_drop (List.mem_of_mem_take hx))
theorem rowAt_len {ks : List Int} (h : ks.length = 176) (r : Nat) (hr : r < 11) : (rowAt ks r).length = 16 := by
 rw [rowAt, List.length_take, List.length_drop, h]; omega
theorem rowAt_get {ks : List Int} (r j : Nat) (hj : j < 16) : (rowAt ks r).getD j 0 = ks.getD (r * 16 + j) 0 := by
 rw [List.getD_eq_getElem?_getD, rowAt, List.getElem?_take, if_pos hj, List.getElem?_drop, List.getD_eq_getElem?_getD]
theorem keyR_ok {T ks0 : List Int} (hT : Bytes T) (h0 : ks0.length = 176) (hb : Bytes ks0) (r : Nat) :
 (0 ≤ (keyR T ks0 r).1 ∧ (keyR T ks0 r).1 < 256) ∧ (keyR T ks0 r).2.length = 176 ∧ Bytes (keyR T ks0 r).2 := by
 induction r with
 | zero => exact ⟨by show (0:Int) ≤ 1 ∧ (1:Int) < 256; omega, h0, hb⟩
 | succ r ih =>
  exact ⟨tw_byte ih.1, by show (keyI _ _ _ _ _).length = _; rw [keyI_len]; exact ih.2.1, keyI_bytes _ (rowAt_bytes ih.2.2 _) (colF_bytes hT ih.1) ih.2.2 _⟩
theorem keyZ_len {key : List Int} (h : key.length = 16) : (keyZ key).length = 176 := by rw [keyZ, List.length_append, h, List.length_replicate]
theorem keyZ_bytes {key : List Int} (h : Bytes key) : Bytes (keyZ key) := fun x hx => by
 rcases List.mem_append.1 hx with h1 | h1
 · exact h x h1
 · have := (List.mem_replicate.1 h1).2; subst this; omega
theorem aesKeyF_len {T key : List Int} (hT : Bytes T) (h : key.length = 16) (hb : Bytes key) : (aesKeyF T key).length = 176 := (keyR_ok hT (keyZ_len h) (keyZ_bytes hb) 10).2.1
theorem aesKeyF_bytes {T key : List Int} (hT : Bytes T) (h : key.length = 16) (hb : Bytes key) : Bytes (aesKeyF T key) := (keyR_ok hT (keyZ_len h) (keyZ_bytes hb) 10).2.2
/-- A key laid over zeros. -/
theorem keyZ_lset {key : List Int} (h : key.length = 16) : lset (u8s (List.replicate 176 0)) 0 (u8s key) = u8s (keyZ key) := by
 refine List.ext_getElem? fun j => ?_
 rw [lset_get _ _ _ _ (by rw [u8s_len, u8s_len, h, List.length_replicate]; omega), u8s_len, h]
 unfold keyZ u8s
 by_cases hj : j < 16
 · rw [if_pos ⟨by omega, by omega⟩, List.getElem?_map, List.getElem?_map, List.getElem?_append_left (by omega)]; rfl
 · rw [if_neg (by omega), List.getElem?_map, List.getElem?_map, List.getElem?_append_right (by omega), h, List.getElem?_replicate, List.getElem?_replicate]
   by_cases h2 : j < 176
   · rw [if_pos h2, if_pos (by omega)]
   · rw [if_neg h2, if_neg (by omega)]
/-- The row's cells in the block. -/
theorem row_range {w : World} {g : Nat} {t : TypeId} {ks : List Int} (h : Blk w g t (u8s ks)) (r : Nat) : w.rangeAt g (r * 16) (u8s (rowAt ks r)) :=
 blk_range h _ _ fun j u hu => by
  unfold u8s rowAt at hu
  rw [List.getElem?_map, List.getElem?_take] at hu
  unfold u8s
  split at hu
  · rw [List.getElem?_drop] at hu; rw [List.getElem?_map]; exact hu
  · simp at hu
theorem aesKeyF_at (T key : List Int) : aesKeyF T key = (keyR T (keyZ key) 10).2 := rfl
end Go.Proofs.YthdjgebbjogmiaaDoor

namespace Go.Proofs.YthdjgebbjogmiaaDoor
open Go Go.RowKit
set_option maxRecDepth 100000

def subAt (T a : List Int) (j : Nat) : Int := T.getD (a.getD ((j + 4 * (j % 4)) % 16) 0).toNat 0
def subF (T a : List Int) : List Int := (List.range 16).map (subAt T a)
def midF (T a : List Int) (r : Nat) : List Int := if r < 10 then columnsF (subF T a) else subF T a
def blockR (T ks inp : List Int) : Nat → List Int
 | 0 => xorF inp (rowAt ks 0)
 | r + 1 => xorF (midF T (blockR T ks inp r) (r + 1)) (rowAt ks (r + 1))
def blockF (T ks inp : List Int) : List Int := blockR T ks inp 10

theorem subF_len (T a : List Int) : (subF T a).length = 16 := by simp [subF]
theorem subF_get (T a : List Int) (j : Nat) (hj : j < 16) : (subF T a).getD j 0 = subAt T a j := by
 rw [getD_el _ _ (by rw [subF_len]; exact hj)]
 simp [subF]
theorem subF_bytes {T : List Int} (h : Bytes T) (a : List Int) : Bytes (subF T a) := fun x hx => by
 obtain ⟨j, _, rfl⟩ := List.mem_map.1 hx
 exact h.getD _
theorem xorF_bytes {a b : List Int} (ha : a.length = 16) (hb : b.length = 16) (h : Bytes a) (h' : Bytes b) : Bytes (xorF a b) := fun x hx => by
 obtain ⟨j, hj, rfl⟩ := List.getElem_of_mem hx
 rw [xorF_len a b ha hb] at hj
 rw [← getD_el _ _ (by rw [xorF_len a b ha hb]; exact hj), xorF_get a b j (by omega) (by omega)]
 exact x8_byte (h.getD _) (h'.getD _)
theorem midF_len (T a : List Int) (r : Nat) : (midF T a r).length = 16 := by
 unfold midF; split
 · exact columnsF_len _
 · exact subF_len _ _
theorem midF_bytes {T : List Int} (h : Bytes T) (a : List Int) (r : Nat) : Bytes (midF T a r) := by
 unfold midF; split
 · exact columnsF_bytes (subF_bytes h a)
 · exact subF_bytes h a
theorem blockR_ok {T ks inp : List Int} (hT : Bytes T) (hk : ks.length = 176) (bk : Bytes ks) (hi : inp.length = 16) (bi : Bytes inp) (r : Nat) (hr : r ≤ 10) :
 (blockR T ks inp r).length = 16 ∧ Bytes (blockR T ks inp r) := by
 induction r with
 | zero => exact ⟨xorF_len _ _ hi (rowAt_len hk 0 (by omega)), xorF_bytes hi (rowAt_len hk 0 (by omega)) bi (rowAt_bytes bk 0)⟩
 | succ r ih => exact ⟨xorF_len _ _ (midF_len _ _ _) (rowAt_len hk (r + 1) (by omega)), xorF_bytes (midF_len _ _ _) (rowAt_len hk (r + 1) (by omega)) (midF_bytes hT _ _) (rowAt_bytes bk (r + 1))⟩
theorem blockF_len {T ks inp : List Int} (hT : Bytes T) (hk : ks.length = 176) (bk : Bytes ks) (hi : inp.length = 16) (bi : Bytes inp) : (blockF T ks inp).length = 16 := (blockR_ok hT hk bk hi bi 10 (by omega)).1
theorem blockF_bytes {T ks inp : List Int} (hT : Bytes T) (hk : ks.length = 176) (bk : Bytes ks) (hi : inp.length = 16) (bi : Bytes inp) : Bytes (blockF T ks inp) := (blockR_ok hT hk bk hi bi 10 (by omega)).2
end Go.Proofs.YthdjgebbjogmiaaDoor

namespace Go.Proofs.YthdjgebbjogmiaaDoor
open Go Go.RowKit
set_option maxRecDepth 100000

/-- Place j of the counter's block. -/
def ctrAt (n j : Nat) : Int := ((n / 256 ^ (15 - j) % 256 : Nat) : Int)
def ctr (n : Nat) : List Int := (List.range 16).map (ctrAt n)
theorem ctr_len (n : Nat) : (ctr n).length = 16 := by simp [ctr]
theorem ctr_get (n j : Nat) (hj : j < 16) : (ctr n).getD j 0 = ctrAt n j := by
 rw [getD_el _ _ (by rw [ctr_len]; exact hj)]
 simp [ctr]
theorem ctrAt_byte (n j : Nat) : 0 ≤ ctrAt n j ∧ ctrAt n j < 256 := by
 unfold ctrAt
 have := Nat.mod_lt (n / 256 ^ (15 - j)) (show 0 < 256 by omega)
 omega
theorem ctr_bytes (n : Nat) : Bytes (ctr n) := fun x hx => by
 obtain ⟨j, _, rfl⟩ := List.mem_map.1 hx
 exact ctrAt_byte n j
/-- Where streams begin. -/
def atF (at_ : Int) : Nat := (max 0 (min at_ 1073741824)).toNat
theorem atF_le (a : Int) : atF a ≤ 1073741824 := by unfold atF; omega
/-- The stream's byte at place p. -/
def keyAt (T ks : List Int) (p : Nat) : Int := (blockF T ks (ctr (p / 16))).getD (p % 16) 0
def streamAt (T ks : List Int) (a : Nat) (b : List Int) (i : Nat) : Int := X8 (b.getD i 0) (keyAt T ks (a + i))
def streamF (T ks : List Int) (a : Nat) (b : List Int) : List Int := (List.range b.length).map (streamAt T ks a b)
theorem streamF_len (T ks : List Int) (a : Nat) (b : List Int) : (streamF T ks a b).length = b.length := by simp [streamF]
theorem streamF_get (T ks : List Int) (a : Nat) (b : List Int) (i : Nat) (hi : i < b.length) : (streamF T ks a b).getD i 0 = streamAt T ks a b i := by
 rw [getD_el _ _ (by rw [streamF_len]; exact hi)]
 simp [streamF]
theorem keyAt_byte {T ks : List Int} (hT : Bytes T) (hk : ks.length = 176) (bk : Bytes ks) (p : Nat) : 0 ≤ keyAt T ks p ∧ keyAt T ks p < 256 := (blockF_bytes hT hk bk (ctr_len _) (ctr_bytes _)).getD _
theorem streamF_bytes {T ks : List Int} (hT : Bytes T) (hk : ks.length = 176) (bk : Bytes ks) (a : Nat) {b : List Int} (hb : Bytes b) : Bytes (streamF T ks a b) := fun x hx => by
 obtain ⟨j, _, rfl⟩ := List.mem_map.1 hx
 exact x8_byte (hb.getD _) (keyAt_byte hT hk bk _)
end Go.Proofs.YthdjgebbjogmiaaDoor

namespace Go.Proofs.YthdjgebbjogmiaaDoor
open Go Go.RowKit
set_option maxRecDepth 100000

theorem x8_twice {a b : Int} (ha : 0 ≤ a ∧ a < 256) (hb : 0 ≤ b ∧ b < 256) : X8 (X8 a b) b = a := by
 obtain ⟨a, rfl⟩ := Int.eq_ofNat_of_zero_le ha.1
 obtain ⟨b, rfl⟩ := Int.eq_ofNat_of_zero_le hb.1
 have hx : a ^^^ b < 2 ^ 8 := Nat.xor_lt_two_pow (by omega) (by omega)
 rw [x8_nat a b (by omega) (by omega), x8_nat (a ^^^ b) b (by omega) (by omega), Nat.xor_assoc, Nat.xor_self, Nat.xor_zero]
theorem stream_twice {T ks : List Int} (hT : Bytes T) (hk : ks.length = 176) (bk : Bytes ks) (a : Nat) {b : List Int} (hb : Bytes b) : streamF T ks a (streamF T ks a b) = b :=
 ext_getD (by rw [streamF_len, streamF_len]) fun j hj => by
  rw [streamF_len, streamF_len] at hj
  rw [streamF_get _ _ _ _ _ (by rw [streamF_len]; exact hj), streamAt, streamF_get _ _ _ _ _ hj, streamAt]
  exact x8_twice (hb.getD _) (keyAt_byte hT hk bk _)
theorem stream_split (T ks : List Int) (a : Nat) (b : List Int) (n : Nat) (hn : n ≤ b.length) : streamF T ks a (b.take n) ++ streamF T ks (a + n) (b.drop n) = streamF T ks a b := by
 have hl1 : (b.take n).length = n := by rw [List.length_take]; omega
 have hl : (streamF T ks a (b.take n)).length = n := by rw [streamF_len, hl1]
 refine ext_getD (by rw [List.length_append, streamF_len, streamF_len, streamF_len, List.length_take, List.length_drop]; omega) fun j hj => ?_
 rw [List.length_append, hl, streamF_len, List.length_drop] at hj
 rw [streamF_get T ks a b j (by omega)]
 rcases Nat.lt_or_ge j n with h | h
 · rw [List.getD_eq_getElem?_getD, List.getElem?_append_left (by omega), ← List.getD_eq_getElem?_getD, streamF_get _ _ _ _ _ (by omega), streamAt, streamAt]
   congr 1
   rw [List.getD_eq_getElem?_getD, List.getElem?_take, if_pos h, List.getD_eq_getElem?_getD]
 · rw [List.getD_eq_getElem?_getD, List.getElem?_append_right (by omega), ← List.getD_eq_getElem?_getD, hl, streamF_get _ _ _ _ _ (by rw [List.length_drop]; omega), streamAt, streamAt, show a + n + (j - n) = a + j by omega]
   congr 1
   rw [List.getD_eq_getElem?_getD, List.getElem?_drop, show n + (j - n) = j by omega, List.getD_eq_getElem?_getD]
theorem atF_of (n : Nat) (h : n ≤ 1073741824) : atF (n : Int) = n := by unfold atF; omega
end Go.Proofs.YthdjgebbjogmiaaDoor
