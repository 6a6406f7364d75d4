/- The keys of the rounds: the plain law. -/
import Derived.Test.YtoicohcomjnnfaaAesRef
import Derived.Test.YtoicohcomjnnfaaAesCols
namespace Go.Proofs.Ytoicohcomjnnfaa
open Go Go.RowKit

def colF (T P : List Int) (rc : Int) : List Int :=
  [X8 (T.getD (P.getD 13 0).toNat 0) rc, T.getD (P.getD 14 0).toNat 0, T.getD (P.getD 15 0).toNat 0, T.getD (P.getD 12 0).toNat 0]
/-- i cells of row r, laid into ks. -/
def keyI (P c : List Int) (r : Nat) (ks : List Int) : Nat → List Int
  | 0 => ks
  | i + 1 => (keyI P c r ks i).set (r * 16 + i) (X8 (P.getD i 0) (if i < 4 then c.getD i 0 else (keyI P c r ks i).getD (r * 16 + i - 4) 0))
def rowAt (ks : List Int) (r : Nat) : List Int := (ks.drop (r * 16)).take 16
def keyR (T : List Int) (ks0 : List Int) : Nat → Int × List Int
  | 0 => (1, ks0)
  | r + 1 => (tw (keyR T ks0 r).1, keyI (rowAt (keyR T ks0 r).2 r) (colF T (rowAt (keyR T ks0 r).2 r) (keyR T ks0 r).1) (r + 1) (keyR T ks0 r).2 16)
def keyZ (key : List Int) : List Int := key ++ List.replicate 160 0
def keyF (T key : List Int) : List Int := (keyR T (keyZ key) 10).2

theorem keyI_len (P c : List Int) (r : Nat) (ks : List Int) (i : Nat) : (keyI P c r ks i).length = ks.length := by
  induction i with
  | zero => rfl
  | succ i ih => show ((keyI P c r ks i).set _ _).length = _; rw [List.length_set, ih]
theorem colF_bytes {T P : List Int} {rc : Int} (hT : Bytes T) (h : 0 ≤ rc ∧ rc < 256) : Bytes (colF T P rc) := by
  intro x hx
  simp only [colF, List.mem_cons, List.not_mem_nil, or_false] at hx
  rcases hx with rfl | rfl | rfl | rfl
  · exact x8_byte (hT.getD _) h
  · exact hT.getD _
  · exact hT.getD _
  · exact hT.getD _
theorem keyI_bytes {P c : List Int} (r : Nat) {ks : List Int} (hP : Bytes P) (hc : Bytes c) (hk : Bytes ks) (i : Nat) : Bytes (keyI P c r ks i) := by
  induction i with
  | zero => exact hk
  | succ i ih =>
    have hv : 0 ≤ X8 (P.getD i 0) (if i < 4 then c.getD i 0 else (keyI P c r ks i).getD (r * 16 + i - 4) 0) ∧ X8 (P.getD i 0) (if i < 4 then c.getD i 0 else (keyI P c r ks i).getD (r * 16 + i - 4) 0) < 256 := by
      refine x8_byte (hP.getD _) ?_
      split
      · exact hc.getD _
      · exact ih.getD _
    exact ih.set_ _ hv.1 hv.2
theorem rowAt_bytes {ks : List Int} (h : Bytes ks) (r : Nat) : Bytes (rowAt ks r) := fun x hx => h x (List.mem_of_mem_drop (List.mem_of_mem_take hx))
theorem rowAt_len {ks : List Int} (h : ks.length = 176) (r : Nat) (hr : r < 11) : (rowAt ks r).length = 16 := by
  rw [rowAt, List.length_take, List.length_drop, h]; omega
theorem rowAt_get {ks : List Int} (r j : Nat) (hj : j < 16) : (rowAt ks r).getD j 0 = ks.getD (r * 16 + j) 0 := by
  rw [List.getD_eq_getElem?_getD, rowAt, List.getElem?_take, if_pos hj, List.getElem?_drop, List.getD_eq_getElem?_getD]
theorem keyR_ok {T ks0 : List Int} (hT : Bytes T) (h0 : ks0.length = 176) (hb : Bytes ks0) (r : Nat) :
    (0 ≤ (keyR T ks0 r).1 ∧ (keyR T ks0 r).1 < 256) ∧ (keyR T ks0 r).2.length = 176 ∧ Bytes (keyR T ks0 r).2 := by
  induction r with
  | zero => exact ⟨by show (0:Int) ≤ 1 ∧ (1:Int) < 256; omega, h0, hb⟩
  | succ r ih =>
    exact ⟨tw_byte ih.1, by show (keyI _ _ _ _ _).length = _; rw [keyI_len]; exact ih.2.1, keyI_bytes _ (rowAt_bytes ih.2.2 _) (colF_bytes hT ih.1) ih.2.2 _⟩
theorem keyZ_len {key : List Int} (h : key.length = 16) : (keyZ key).length = 176 := by rw [keyZ, List.length_append, h, List.length_replicate]
theorem keyZ_bytes {key : List Int} (h : Bytes key) : Bytes (keyZ key) := fun x hx => by
  rcases List.mem_append.1 hx with h1 | h1
  · exact h x h1
  · have := (List.mem_replicate.1 h1).2; subst this; omega
theorem keyF_len {T key : List Int} (hT : Bytes T) (h : key.length = 16) (hb : Bytes key) : (keyF T key).length = 176 := (keyR_ok hT (keyZ_len h) (keyZ_bytes hb) 10).2.1
theorem keyF_bytes {T key : List Int} (hT : Bytes T) (h : key.length = 16) (hb : Bytes key) : Bytes (keyF T key) := (keyR_ok hT (keyZ_len h) (keyZ_bytes hb) 10).2.2
/-- A key laid over zeros. -/
theorem keyZ_lset {key : List Int} (h : key.length = 16) : lset (u8s (List.replicate 176 0)) 0 (u8s key) = u8s (keyZ key) := by
  refine List.ext_getElem? fun j => ?_
  rw [lset_get _ _ _ _ (by rw [u8s_len, u8s_len, h, List.length_replicate]; omega), u8s_len, h]
  unfold keyZ u8s
  by_cases hj : j < 16
  · rw [if_pos ⟨by omega, by omega⟩, List.getElem?_map, List.getElem?_map, List.getElem?_append_left (by omega)]; rfl
  · rw [if_neg (by omega), List.getElem?_map, List.getElem?_map, List.getElem?_append_right (by omega), h, List.getElem?_replicate, List.getElem?_replicate]
    by_cases h2 : j < 176
    · rw [if_pos h2, if_pos (by omega)]
    · rw [if_neg h2, if_neg (by omega)]
/-- The row's cells in the block. -/
theorem row_range {w : World} {g : Nat} {t : TypeId} {ks : List Int} (h : Blk w g t (u8s ks)) (r : Nat) : w.rangeAt g (r * 16) (u8s (rowAt ks r)) :=
  blk_range h _ _ fun j u hu => by
    unfold u8s rowAt at hu
    rw [List.getElem?_map, List.getElem?_take] at hu
    unfold u8s
    split at hu
    · rw [List.getElem?_drop] at hu; rw [List.getElem?_map]; exact hu
    · simp at hu
theorem keyF_at (T key : List Int) : keyF T key = (keyR T (keyZ key) 10).2 := rfl
end Go.Proofs.Ytoicohcomjnnfaa
