/- aes.box: the plain law of the table, and the rotations.
ref.twice, ref.boxes: the same doubling, and the table by powers and logarithms.
aes.columns. No condition.
The keys of the rounds: the plain law.
A block's rounds: the plain law.
The stream: the plain law.
The stream: twice is itself, in pieces it is the whole. -/
import Derived.Test.YthdjgebbjogmiaaDoorJoin15
import Derived.Test.YthdjgebbjogmiaaDoorJoin1
import Derived.Deep.LoopGhost
namespace Go.Proofs.YthdjgebbjogmiaaDoor
open Go Go.RowKit
set_option maxRecDepth 100000

def rot1 (x : Int) : Int := bits .or .u8 (x * 2 % 256) (x / 128)
set_option maxHeartbeats 400000 in
theorem rot1_any (x : Int) (w : World) (h0 : 0 ≤ x) (h1 : x < 256) :
 Calls Tryd.prog 97 #[.int .u8 x, .int .i64 1] w fun e w' => e = .returned (.int .u8 (rot1 x)) ∧ w = w' := by
 have hk : bits BinOp.and IntKind.u64 1 7 = 1 := by decide
 go_enter Tryd.func97, Tryd.ntmps97
 go_wp2
 go_ret
 exact ⟨rfl, rfl⟩
def rot2 (x : Int) : Int := bits .or .u8 (x * 4 % 256) (x / 64)
set_option maxHeartbeats 400000 in
theorem rot2_any (x : Int) (w : World) (h0 : 0 ≤ x) (h1 : x < 256) :
 Calls Tryd.prog 97 #[.int .u8 x, .int .i64 2] w fun e w' => e = .returned (.int .u8 (rot2 x)) ∧ w = w' := by
 have hk : bits BinOp.and IntKind.u64 2 7 = 2 := by decide
 go_enter Tryd.func97, Tryd.ntmps97
 go_wp2
 go_ret
 exact ⟨rfl, rfl⟩
def rot3 (x : Int) : Int := bits .or .u8 (x * 8 % 256) (x / 32)
set_option maxHeartbeats 400000 in
theorem rot3_any (x : Int) (w : World) (h0 : 0 ≤ x) (h1 : x < 256) :
 Calls Tryd.prog 97 #[.int .u8 x, .int .i64 3] w fun e w' => e = .returned (.int .u8 (rot3 x)) ∧ w = w' := by
 have hk : bits BinOp.and IntKind.u64 3 7 = 3 := by decide
 go_enter Tryd.func97, Tryd.ntmps97
 go_wp2
 go_ret
 exact ⟨rfl, rfl⟩
def rot4 (x : Int) : Int := bits .or .u8 (x * 16 % 256) (x / 16)
set_option maxHeartbeats 400000 in
theorem rot4_any (x : Int) (w : World) (h0 : 0 ≤ x) (h1 : x < 256) :
 Calls Tryd.prog 97 #[.int .u8 x, .int .i64 4] w fun e w' => e = .returned (.int .u8 (rot4 x)) ∧ w = w' := by
 have hk : bits BinOp.and IntKind.u64 4 7 = 4 := by decide
 go_enter Tryd.func97, Tryd.ntmps97
 go_wp2
 go_ret
 exact ⟨rfl, rfl⟩

def boxP (p : Int) : Int := X8 p (tw p)
def boxQ1 (q : Int) : Int := X8 q (q * 2 % 256)
def boxQ2 (q : Int) : Int := X8 q (q * 4 % 256)
def boxQ3 (q : Int) : Int := X8 q (q * 16 % 256)
def boxQ4 (q : Int) : Int := if (bits .and .u8 q 128 != 0) = true then X8 q 9 else q
def boxQ (q : Int) : Int := boxQ4 (boxQ3 (boxQ2 (boxQ1 q)))
def boxX (q : Int) : Int := X8 (X8 (X8 (X8 (X8 q (rot1 q)) (rot2 q)) (rot3 q)) (rot4 q)) 99
def boxStep (s : Int × Int × List Int) : Int × Int × List Int :=
 let p := boxP s.1
 let q := boxQ s.2.1
 (p, q, s.2.2.set p.toNat (boxX q))
def boxS : Nat → Int × Int × List Int
 | 0 => (1, 1, List.replicate 256 0)
 | k + 1 => boxStep (boxS k)
theorem boxP_byte {p : Int} (h : 0 ≤ p ∧ p < 256) : 0 ≤ boxP p ∧ boxP p < 256 := x8_byte h (tw_byte h)
theorem boxQ4_byte {q : Int} (h : 0 ≤ q ∧ q < 256) : 0 ≤ boxQ4 q ∧ boxQ4 q < 256 := by
 unfold boxQ4; split
 · exact x8_byte h (by omega)
 · exact h
theorem boxQ_byte {q : Int} (h : 0 ≤ q ∧ q < 256) : 0 ≤ boxQ q ∧ boxQ q < 256 := by
 have h1 : 0 ≤ boxQ1 q ∧ boxQ1 q < 256 := x8_byte h (by omega)
 have h2 : 0 ≤ boxQ2 (boxQ1 q) ∧ boxQ2 (boxQ1 q) < 256 := x8_byte h1 (by omega)
 have h3 : 0 ≤ boxQ3 (boxQ2 (boxQ1 q)) ∧ boxQ3 (boxQ2 (boxQ1 q)) < 256 := x8_byte h2 (by omega)
 exact boxQ4_byte h3
theorem boxS_ok (k : Nat) : (0 ≤ (boxS k).1 ∧ (boxS k).1 < 256) ∧ (0 ≤ (boxS k).2.1 ∧ (boxS k).2.1 < 256) ∧ (boxS k).2.2.length = 256 := by
 induction k with
 | zero => exact ⟨by show (0:Int) ≤ 1 ∧ (1:Int) < 256; omega, by show (0:Int) ≤ 1 ∧ (1:Int) < 256; omega, by show (List.replicate 256 (0 : Int)).length = 256; rw [List.length_replicate]⟩
 | succ k ih => exact ⟨boxP_byte ih.1, boxQ_byte ih.2.1, by simpa [boxS, boxStep] using ih.2.2⟩
/-- From p on, n steps: not 1 till the last, then 1. -/
def boxEnds : Nat → Int → Bool
 | 0, p => p == 1
 | n + 1, p => p != 1 && boxEnds n (boxP p)
theorem box_ends : boxEnds 254 (boxP 1) = true := by decide +kernel
theorem boxEnds_at (n : Nat) : ∀ (p : Int) (k : Nat), boxEnds n p = true → k ≤ n → ((Nat.repeat boxP k p) == 1) = decide (k = n) := by
 induction n with
 | zero => intro p k h hk; obtain rfl : k = 0 := (by omega); show (p == 1) = decide (0 = 0); have h2 : (p == 1) = true := h; rw [h2]; rfl
 | succ n ih =>
  intro p k h hk
  simp only [boxEnds, Bool.and_eq_true] at h
  cases k with
  | zero =>
   have : (p == 1) = false := by simpa using h.1
   simp [Nat.repeat, this]
  | succ k =>
   have := ih (boxP p) k h.2 (by omega)
   have e : Nat.repeat boxP (k + 1) p = Nat.repeat boxP k (boxP p) := by
    clear this h ih
    induction k generalizing p with
    | zero => rfl
    | succ k ih => show boxP (Nat.repeat boxP (k + 1) p) = boxP (Nat.repeat boxP k (boxP p)); rw [ih p (by omega)]
   rw [e, this]
   simp
theorem boxS_fst (k : Nat) : (boxS k).1 = Nat.repeat boxP k 1 := by
 induction k with
 | zero => rfl
 | succ k ih => show boxP (boxS k).1 = boxP (Nat.repeat boxP k 1); rw [ih]
theorem box_last (k : Nat) (hk : k ≤ 254) : ((boxS (k + 1)).1 == 1) = decide (k = 254) := by
 have := boxEnds_at 254 (boxP 1) k box_ends hk
 rw [boxS_fst]
 have e : ∀ k p, Nat.repeat boxP (k + 1) p = Nat.repeat boxP k (boxP p) := by
  intro k
  induction k with
  | zero => intro p; rfl
  | succ k ih => intro p; show boxP (Nat.repeat boxP (k + 1) p) = boxP (Nat.repeat boxP k (boxP p)); rw [ih]
 rw [e, this]

def boxTab : List Int := (boxS 255).2.2.set 0 99
theorem boxTab_len : boxTab.length = 256 := by unfold boxTab; rw [List.length_set]; exact (boxS_ok 255).2.2

end Go.Proofs.YthdjgebbjogmiaaDoor

namespace Go.Proofs.YthdjgebbjogmiaaDoor
open Go Go.RowKit
set_option maxRecDepth 100000

theorem and128 : ∀ n : Fin 256, (bits .and .u8 ((n.val : Nat) : Int) 128 != 0) = decide (128 ≤ n.val) := by decide +kernel
theorem tw_ge (a : Int) (h0 : 0 ≤ a) (h1 : a < 256) : tw a = if 128 ≤ a then X8 (a * 2 % 256) 27 else a * 2 % 256 := by
 obtain ⟨n, rfl⟩ := Int.eq_ofNat_of_zero_le h0
 have h := and128 ⟨n, by omega⟩
 simp only at h
 unfold tw
 rw [h]
 by_cases e : 128 ≤ n
 · rw [if_pos (by simpa using e), if_pos (by omega)]
 · rw [if_neg (by simpa using e), if_neg (by omega)]

set_option maxHeartbeats 400000 in
theorem twice_ref (a : Int) (w : World) (h0 : 0 ≤ a) (h1 : a < 256) :
 Calls Tryd.prog 92 #[.int .u8 a] w fun e w' => e = .returned (.int .u8 (tw a)) ∧ w = w' := by
 have H := hide (tw_ge a h0 h1)
 go_enter Tryd.func92, Tryd.ntmps92
 by_cases hc : 128 ≤ a
 · go_wp2
   go_ret
   refine ⟨?_, rfl⟩
   rw [H.out, if_pos hc]
   rfl
 · go_wp2
   go_ret
   refine ⟨?_, rfl⟩
   rw [H.out, if_neg (by omega), Int.emod_eq_of_lt (by omega) (by omega)]
   rfl

def refS : Nat → Int × List Int × List Int
 | 0 => (1, List.replicate 256 0, List.replicate 256 0)
 | k + 1 => (X8 (refS k).1 (tw (refS k).1), (refS k).2.1.set k (refS k).1, (refS k).2.2.set (refS k).1.toNat k)
def byteL (l : List Int) : Prop := l.length = 256 ∧ ∀ u ∈ l, 0 ≤ u ∧ u < 256
theorem byteL_set {l : List Int} (h : byteL l) (i : Nat) {x : Int} (hx : 0 ≤ x ∧ x < 256) : byteL (l.set i x) :=
 ⟨by rw [List.length_set]; exact h.1, fun u hu => by
  rcases List.mem_or_eq_of_mem_set hu with h1 | h1
  · exact h.2 u h1
  · exact h1 ▸ hx⟩
theorem byteL_zero : byteL (List.replicate 256 0) := ⟨List.length_replicate, fun u hu => by
 have := (List.mem_replicate.1 hu).2; subst this; omega⟩
theorem refS_ok (k : Nat) (hk : k ≤ 255) : (0 ≤ (refS k).1 ∧ (refS k).1 < 256) ∧ byteL (refS k).2.1 ∧ byteL (refS k).2.2 := by
 induction k with
 | zero => exact ⟨by show (0:Int) ≤ 1 ∧ (1:Int) < 256; omega, byteL_zero, byteL_zero⟩
 | succ k ih =>
  obtain ⟨a, b, c⟩ := ih (by omega)
  exact ⟨x8_byte a (tw_byte a), byteL_set b _ a, byteL_set c _ (by omega)⟩
def rotN (v : Int) (j : Nat) : Int := bits .or .u8 (v * 2 ^ j % 256) (v / 2 ^ (8 - j))
def affS (v : Int) : Nat → Int
 | 0 => 99
 | j + 1 => X8 (affS v j) (rotN v j)
theorem bits_byte (op : BinOp) (a b : Int) : 0 ≤ bits op .u8 a b ∧ bits op .u8 a b < 256 := by
 unfold bits
 split <;> (rw [IntKind.wrap_u8]; omega)
theorem affS_byte {v : Int} (h0 : 0 ≤ v) (h1 : v < 256) (j : Nat) : 0 ≤ affS v j ∧ affS v j < 256 := by
 cases j with
 | zero => show (0 : Int) ≤ 99 ∧ (99 : Int) < 256; omega
 | succ j =>
  rw [show affS v (j + 1) = bits .xor .u8 (affS v j) (rotN v j) from rfl]
  exact bits_byte _ _ _
theorem byteL_get {l : List Int} (h : byteL l) (i : Nat) (hi : i < 256) : 0 ≤ l.getD i 0 ∧ l.getD i 0 < 256 := by
 rw [getD_el _ _ (by rw [h.1]; exact hi)]; exact h.2 _ (List.getElem_mem _)
def refInv (pow log : List Int) (i : Nat) : Int := if i = 0 then 0 else pow.getD ((255 - log.getD i 0) % 255).toNat 0
def refTab (pow log : List Int) : List Int := (List.range 256).map fun i => affS (refInv pow log i) 5
theorem refTab_len (pow log : List Int) : (refTab pow log).length = 256 := by simp [refTab]
theorem refTab_get (pow log : List Int) (j : Nat) (h : j < 256) : (refTab pow log).getD j 0 = affS (refInv pow log j) 5 := by
 rw [List.getD_eq_getElem?_getD, refTab, List.getElem?_map, List.getElem?_range h]; rfl
end Go.Proofs.YthdjgebbjogmiaaDoor

namespace Go.Proofs.YthdjgebbjogmiaaDoor
open Go Go.RowKit
set_option maxRecDepth 100000

def mixAt (b : List Int) (j : Nat) : Int :=
 X8 (X8 (X8 (X8 (tw (b.getD j 0)) (tw (b.getD (4 * (j / 4) + (j + 1) % 4) 0))) (b.getD (4 * (j / 4) + (j + 1) % 4) 0)) (b.getD (4 * (j / 4) + (j + 2) % 4) 0)) (b.getD (4 * (j / 4) + (j + 3) % 4) 0)
def columnsF (b : List Int) : List Int := (List.range 16).map (mixAt b)
theorem columnsF_len (b : List Int) : (columnsF b).length = 16 := by simp [columnsF]
theorem columnsF_get (b : List Int) (j : Nat) (hj : j < 16) : (columnsF b).getD j 0 = mixAt b j := by
 rw [getD_el _ _ (by rw [columnsF_len]; exact hj)]
 simp [columnsF]
theorem Bytes.getD {xs : List Int} (h : Bytes xs) (i : Nat) : 0 ≤ xs.getD i 0 ∧ xs.getD i 0 < 256 := by
 rcases Nat.lt_or_ge i xs.length with hi | hi
 · rw [getD_el _ _ hi]; exact h.get i hi
 · rw [List.getD_eq_getElem?_getD, List.getElem?_eq_none hi]; simp
theorem mixAt_byte {b : List Int} (h : Bytes b) (j : Nat) : 0 ≤ mixAt b j ∧ mixAt b j < 256 :=
 x8_byte (x8_byte (x8_byte (x8_byte (tw_byte (h.getD _)) (tw_byte (h.getD _))) (h.getD _)) (h.getD _)) (h.getD _)
theorem columnsF_bytes {b : List Int} (h : Bytes b) : Bytes (columnsF b) := fun x hx => by
 obtain ⟨j, _, rfl⟩ := List.mem_map.1 hx
 exact mixAt_byte h j

set_option maxRecDepth 100000 in
set_option maxHeartbeats 2000000 in
theorem columns_any (b : List Int) (w : World) (hb : b.length = 16) (bb : Bytes b) :
 Calls Tryd.prog 99 #[.agg (u8s b).toArray] w fun e w' => e = .returned (.agg (u8s (columnsF b)).toArray) ∧ Below w.heap.size w w' := by
 have HB := hide hb
 have BB := hide bb
 clear hb bb
 go_enter Tryd.func99, Tryd.ntmps99
 go_wp2_with fail
 go_loopw [4, 5, 6, 7, 8, 9, 14] (fun vc _ _ _ _ _ _ wr => ∃ (m : Nat) (xs : List Int), m ≤ 4 ∧ vc = .int .i64 ((4 * m : Nat) : Int) ∧ xs.length = 16 ∧ (∀ j, j < 16 → xs.getD j 0 = if j < 4 * m then mixAt b j else 0) ∧
  Blk wr w.heap.size 22 (u8s b) ∧ Blk wr (w.heap.size + 1) 22 (u8s (List.replicate 16 0)) ∧ Blk wr (w.heap.size + 1 + 1) 22 (u8s xs) ∧ Below w.heap.size w wr) (fun vc _ _ _ _ _ _ _ => 16 - (intOf vc).toNat)
 case atStart =>
  have b1 := ((Blk.new w 22 (u8s b)).alloc (.cells (u8s (List.replicate 16 0)).toArray 22)).alloc (.cells (u8s (List.replicate 16 0)).toArray 22)
  have b2 := (Blk.new (w.alloc (.cells (u8s b).toArray 22)) 22 (u8s (List.replicate 16 0))).alloc (.cells (u8s (List.replicate 16 0)).toArray 22)
  have b3 := Blk.new ((w.alloc (.cells (u8s b).toArray 22)).alloc (.cells (u8s (List.replicate 16 0)).toArray 22)) 22 (u8s (List.replicate 16 0))
  simp only [World.size_alloc] at b2 b3
  exact ⟨0, List.replicate 16 0, Nat.zero_le _, rfl, by simp, fun j hj => by rw [getD_el _ _ (by simpa using hj), List.getElem_replicate]; simp, b1, b2, b3, (((Below.refl w.heap.size w).alloc (Nat.le_refl _) _).alloc (by simp) _).alloc (by simp; omega) _⟩
 case round =>
  obtain ⟨m, xs, hm, rfl, hl, hx, b1, b2, b3, hbel⟩ := hrel
  have HL := hide hl
  have HX := hide hx
  have B1 := hide b1
  have B2 := hide b2
  have B3 := hide b3
  have HBel := hide hbel
  clear hl hx b1 b2 b3 hbel
  obtain ⟨c, hc⟩ : ∃ c, 4 * m = c := ⟨_, rfl⟩
  rw [hc]
  have HC := hide hc
  have hc4 : c ≤ 16 := by omega
  by_cases hmt : m < 4
  · have hc12 : c ≤ 12 := by omega
    have hcd : decide ((c : Int) < 16) = true := by simp; omega
    clear hc
    obtain ⟨wo, rfl⟩ : ∃ wo : World, wo = wr := ⟨_, rfl⟩
    go_wp2_with fail
    go_loopw [5, 6, 7, 8, 9, 14] (fun _ _ _ _ _ vi wr => ∃ (i : Nat) (xs : List Int), i ≤ 4 ∧ vi = .int .i64 i ∧ xs.length = 16 ∧ (∀ j, j < 16 → xs.getD j 0 = if j < c + i then mixAt b j else 0) ∧
     Blk wr w.heap.size 22 (u8s b) ∧ Blk wr (w.heap.size + 1) 22 (u8s (List.replicate 16 0)) ∧ Blk wr (w.heap.size + 1 + 1) 22 (u8s xs) ∧ Below w.heap.size w wr) (fun _ _ _ _ _ vi _ => 4 - (intOf vi).toNat)
    case atStart => exact ⟨0, xs, Nat.zero_le _, rfl, HL.out, by have := HX.out; rw [HC.out] at this; simpa using this, B1.out, B2.out, B3.out, HBel.out⟩
    case round =>
     clear HL HX B1 B2 B3 HBel
     obtain ⟨i, xs, hi, rfl, hl, hx, b1, b2, b3, hbel⟩ := hrel
     have HL := hide hl
     have HX := hide hx
     have B1 := hide b1
     have B2 := hide b2
     have B3 := hide b3
     have HBel := hide hbel
     clear hl hx b1 b2 b3 hbel
     by_cases hit : i < 4
     · obtain ⟨j1, hj1⟩ : ∃ j, (i + 1) % 4 = j := ⟨_, rfl⟩
       obtain ⟨j2, hj2⟩ : ∃ j, (i + 2) % 4 = j := ⟨_, rfl⟩
       obtain ⟨j3, hj3⟩ : ∃ j, (i + 3) % 4 = j := ⟨_, rfl⟩
       have t1 : ((i : Int) + 1).tmod 4 = (j1 : Int) := by rw [Int.tmod_eq_emod_of_nonneg (by omega)]; omega
       have t2 : ((i : Int) + 2).tmod 4 = (j2 : Int) := by rw [Int.tmod_eq_emod_of_nonneg (by omega)]; omega
       have t3 : ((i : Int) + 3).tmod 4 = (j3 : Int) := by rw [Int.tmod_eq_emod_of_nonneg (by omega)]; omega
       have l1 : j1 < 4 := by omega
       have l2 : j2 < 4 := by omega
       have l3 : j3 < 4 := by omega
       have HJ := hide (And.intro hj1 (And.intro hj2 hj3))
       have w0 : IntKind.i64.wrap ((c : Int) + (i : Int)) = (c : Int) + (i : Int) := IntWalk.i64_in _ (by omega)
       have w1 : IntKind.i64.wrap ((i : Int) + 1) = (i : Int) + 1 := IntWalk.i64_in _ (by omega)
       have w2 : IntKind.i64.wrap ((i : Int) + 2) = (i : Int) + 2 := IntWalk.i64_in _ (by omega)
       have w3 : IntKind.i64.wrap ((i : Int) + 3) = (i : Int) + 3 := IntWalk.i64_in _ (by omega)
       have v1 : IntKind.i64.wrap ((c : Int) + (j1 : Int)) = (c : Int) + (j1 : Int) := IntWalk.i64_in _ (by omega)
       have v2 : IntKind.i64.wrap ((c : Int) + (j2 : Int)) = (c : Int) + (j2 : Int) := IntWalk.i64_in _ (by omega)
       have v3 : IntKind.i64.wrap ((c : Int) + (j3 : Int)) = (c : Int) + (j3 : Int) := IntWalk.i64_in _ (by omega)
       obtain ⟨x0, HX0⟩ : ∃ x, Hid (b.getD (c + i) 0 = x) := ⟨_, hide rfl⟩
       obtain ⟨x1, HX1⟩ : ∃ x, Hid (b.getD (c + j1) 0 = x) := ⟨_, hide rfl⟩
       obtain ⟨x2, HX2⟩ : ∃ x, Hid (b.getD (c + j2) 0 = x) := ⟨_, hide rfl⟩
       obtain ⟨x3, HX3⟩ : ∃ x, Hid (b.getD (c + j3) 0 = x) := ⟨_, hide rfl⟩
       have c0 := blk_get B1.out (c + i) x0 (by rw [HB.out]; omega) HX0.out
       have c1 := blk_get B1.out (c + j1) x1 (by rw [HB.out]; omega) HX1.out
       have c2 := blk_get B1.out (c + j2) x2 (by rw [HB.out]; omega) HX2.out
       have c3 := blk_get B1.out (c + j3) x3 (by rw [HB.out]; omega) HX3.out
       obtain ⟨old, HOLD⟩ : ∃ x, Hid (xs.getD (c + i) 0 = x) := ⟨_, hide rfl⟩
       have c4 := blk_get B3.out (c + i) old (by rw [HL.out]; omega) HOLD.out
       have f4 := B3.out.frozen (c + i)
       have y0 := BB.out.getD (c + i)
       have y1 := BB.out.getD (c + j1)
       rw [HX0.out] at y0
       rw [HX1.out] at y1
       obtain ⟨y01, y02⟩ := y0
       obtain ⟨y11, y12⟩ := y1
       have n0 : (0 : Int) ≤ (c : Int) + (i : Int) := by omega
       have n1 : (0 : Int) ≤ (c : Int) + (j1 : Int) := by omega
       have n2 : (0 : Int) ≤ (c : Int) + (j2 : Int) := by omega
       have n3 : (0 : Int) ≤ (c : Int) + (j3 : Int) := by omega
       have m0 : (c : Int) + (i : Int) < 16 := by omega
       have m1 : (c : Int) + (j1 : Int) < 16 := by omega
       have m2 : (c : Int) + (j2 : Int) < 16 := by omega
       have m3 : (c : Int) + (j3 : Int) < 16 := by omega
       go_wp2_with fail
       clear hj1 hj2 hj3
       go_quiet (fail)
       go_wp2_with fail
       refine (twice_any x0 _ y01 y02).mono ?_
       rintro e w' ⟨rfl, rfl⟩
       go_wp2_with fail
       refine (twice_any x1 _ y11 y12).mono ?_
       rintro e w' ⟨rfl, rfl⟩
       go_wp2_with fail
       go_roundw
       case rel =>
        clear w0 w1 w2 w3 v1 v2 v3 t1 t2 t3
        refine ⟨i + 1, xs.set (c + i) (X8 (X8 (X8 (X8 (tw x0) (tw x1)) x1) x2) x3), by omega, by go_num, by simpa using HL.out, fun j hj => ?_, ?_, ?_, ?_, ?_⟩
        · rw [getD_set' _ _ _ _ (by rw [HL.out]; omega)]
          have hxj := HX.out j hj
          obtain ⟨hj1, hj2, hj3⟩ := HJ.out
          have hc := HC.out
          by_cases e : c + i = j
          · rw [if_pos e, if_pos (by omega), ← e]
            unfold mixAt
            rw [show 4 * ((c + i) / 4) + (c + i + 1) % 4 = c + j1 from by omega, show 4 * ((c + i) / 4) + (c + i + 2) % 4 = c + j2 from by omega, show 4 * ((c + i) / 4) + (c + i + 3) % 4 = c + j3 from by omega,
             HX0.out, HX1.out, HX2.out, HX3.out]
          · rw [if_neg e, hxj]
            by_cases h1 : j < c + i
            · rw [if_pos h1, if_pos (by omega)]
            · rw [if_neg h1, if_neg (by omega)]
        · exact B1.out.far (p := ⟨w.heap.size + 1 + 1, c + i, none⟩) (by simp; omega) _
        · exact B2.out.far (p := ⟨w.heap.size + 1 + 1, c + i, none⟩) (by simp) _
        · exact blk_set B3.out (c + i) _
        · exact (below_drewN HBel.out _).setCell (p := ⟨w.heap.size + 1 + 1, c + i, none⟩) (by simp; omega) _
       case measure => simp [intOf]; omega
     · have hi4 : i = 4 := by omega
       have HI4 := hide hi4
       clear hi4
       go_wp2_with fail
       go_roundw
       case rel =>
        refine ⟨m + 1, xs, by omega, ?_, HL.out, ?_, B1.out, B2.out, B3.out, HBel.out⟩
        · rw [← HC.out]; go_num
        · have := HX.out
          rw [HI4.out, ← HC.out] at this
          exact this
       case measure => simp [intOf]; have := HC.out; omega
  · have hx : xs = columnsF b := by
     refine ext_getD (by rw [HL.out, columnsF_len]) fun j hj => ?_
     rw [HL.out] at hj
     rw [HX.out j hj, if_pos (by omega), columnsF_get b j hj]
    have HXX := hide hx
    have hi16 : (Tryd.prog.info? 22).map (·.size) = some (u8s xs).length := by rw [u8s_len, HL.out]; kernel_rfl
    have HI := hide hi16
    clear hx hi16
    go_wp2_with (first | (refine wpList_load_blk rfl 22 _ rfl _ rfl _ _ B3.out 16 5 rfl HI.out ?_) | (refine wpList_store_blk rfl 22 _ _ rfl _ 0 (u8s xs) rfl rfl _ _ B2.out (by rw [u8s_len, u8s_len, HL.out]; simp) HI.out (u8s_one _) ?_; intro w3 hB hg hs))
    have hB2 : Blk w3 (w.heap.size + 1) 22 (u8s xs) := by rw [lset_all _ _ (by rw [u8s_len, u8s_len, HL.out]; simp)] at hB; exact hB
    refine bodyPost_ret (v := .agg (u8s xs).toArray) (results_cell_row rfl _ _ (w.heap.size + 1) 22 _ (0, 0) _ rfl hB2 rfl rfl (by simpa using HI.out)) rfl ⟨by rw [HXX.out], HBel.out.grown hg HBel.out.size (by intro k hk; simp at hk; omega)⟩
end Go.Proofs.YthdjgebbjogmiaaDoor

namespace Go.Proofs.YthdjgebbjogmiaaDoor
open Go Go.RowKit
set_option maxRecDepth 100000

def colF (T P : List Int) (rc : Int) : List Int :=
 [X8 (T.getD (P.getD 13 0).toNat 0) rc, T.getD (P.getD 14 0).toNat 0, T.getD (P.getD 15 0).toNat 0, T.getD (P.getD 12 0).toNat 0]
/-- i cells of row r, laid into ks. -/
def keyI (P c : List Int) (r : Nat) (ks : List Int) : Nat → List Int
 | 0 => ks
 | i + 1 => (keyI P c r ks i).set (r * 16 + i) (X8 (P.getD i 0) (if i < 4 then c.getD i 0 else (keyI P c r ks i).getD (r * 16 + i - 4) 0))
def rowAt (ks : List Int) (r : Nat) : List Int := (ks.drop (r * 16)).take 16
def keyR (T : List Int) (ks0 : List Int) : Nat → Int × List Int
 | 0 => (1, ks0)
 | r + 1 => (tw (keyR T ks0 r).1, keyI (rowAt (keyR T ks0 r).2 r) (colF T (rowAt (keyR T ks0 r).2 r) (keyR T ks0 r).1) (r + 1) (keyR T ks0 r).2 16)
def keyZ (key : List Int) : List Int := key ++ List.replicate 160 0
def aesKeyF (T key : List Int) : List Int := (keyR T (keyZ key) 10).2

theorem keyI_len (P c : List Int) (r : Nat) (ks : List Int) (i : Nat) : (keyI P c r ks i).length = ks.length := by
 induction i with
 | zero => rfl
 | succ i ih => show ((keyI P c r ks i).set _ _).length = _; rw [List.length_set, ih]
theorem colF_bytes {T P : List Int} {rc : Int} (hT : Bytes T) (h : 0 ≤ rc ∧ rc < 256) : Bytes (colF T P rc) := by
 intro x hx
 simp only [colF, List.mem_cons, List.not_mem_nil, or_false] at hx
 rcases hx with rfl | rfl | rfl | rfl
 · exact x8_byte (hT.getD _) h
 · exact hT.getD _
 · exact hT.getD _
 · exact hT.getD _
theorem keyI_bytes {P c : List Int} (r : Nat) {ks : List Int} (hP : Bytes P) (hc : Bytes c) (hk : Bytes ks) (i : Nat) : Bytes (keyI P c r ks i) := by
 induction i with
 | zero => exact hk
 | succ i ih =>
  have hv : 0 ≤ X8 (P.getD i 0) (if i < 4 then c.getD i 0 else (keyI P c r ks i).getD (r * 16 + i - 4) 0) ∧ X8 (P.getD i 0) (if i < 4 then c.getD i 0 else (keyI P c r ks i).getD (r * 16 + i - 4) 0) < 256 := by
   refine x8_byte (hP.getD _) ?_
   split
   · exact hc.getD _
   · exact ih.getD _
  exact ih.set_ _ hv.1 hv.2
theorem rowAt_bytes {ks : List Int} (h : Bytes ks) (r : Nat) : Bytes (rowAt ks r) := fun x hx => h x (List.mem_of_mem_drop (List.mem_of_mem_take hx))
theorem rowAt_len {ks : List Int} (h : ks.length = 176) (r : Nat) (hr : r < 11) : (rowAt ks r).length = 16 := by
 rw [rowAt, List.length_take, List.length_drop, h]; omega
theorem rowAt_get {ks : List Int} (r j : Nat) (hj : j < 16) : (rowAt ks r).getD j 0 = ks.getD (r * 16 + j) 0 := by
 rw [List.getD_eq_getElem?_getD, rowAt, List.getElem?_take, if_pos hj, List.getElem?_drop, List.getD_eq_getElem?_getD]
theorem keyR_ok {T ks0 : List Int} (hT : Bytes T) (h0 : ks0.length = 176) (hb : Bytes ks0) (r : Nat) :
 (0 ≤ (keyR T ks0 r).1 ∧ (keyR T ks0 r).1 < 256) ∧ (keyR T ks0 r).2.length = 176 ∧ Bytes (keyR T ks0 r).2 := by
 induction r with
 | zero => exact ⟨by show (0:Int) ≤ 1 ∧ (1:Int) < 256; omega, h0, hb⟩
 | succ r ih =>
  exact ⟨tw_byte ih.1, by show (keyI _ _ _ _ _).length = _; rw [keyI_len]; exact ih.2.1, keyI_bytes _ (rowAt_bytes ih.2.2 _) (colF_bytes hT ih.1) ih.2.2 _⟩
theorem keyZ_len {key : List Int} (h : key.length = 16) : (keyZ key).length = 176 := by rw [keyZ, List.length_append, h, List.length_replicate]
theorem keyZ_bytes {key : List Int} (h : Bytes key) : Bytes (keyZ key) := fun x hx => by
 rcases List.mem_append.1 hx with h1 | h1
 · exact h x h1
 · have := (List.mem_replicate.1 h1).2; subst this; omega
theorem aesKeyF_len {T key : List Int} (hT : Bytes T) (h : key.length = 16) (hb : Bytes key) : (aesKeyF T key).length = 176 := (keyR_ok hT (keyZ_len h) (keyZ_bytes hb) 10).2.1
theorem aesKeyF_bytes {T key : List Int} (hT : Bytes T) (h : key.length = 16) (hb : Bytes key) : Bytes (aesKeyF T key) := (keyR_ok hT (keyZ_len h) (keyZ_bytes hb) 10).2.2
/-- A key laid over zeros. -/
theorem keyZ_lset {key : List Int} (h : key.length = 16) : lset (u8s (List.replicate 176 0)) 0 (u8s key) = u8s (keyZ key) := by
 refine List.ext_getElem? fun j => ?_
 rw [lset_get _ _ _ _ (by rw [u8s_len, u8s_len, h, List.length_replicate]; omega), u8s_len, h]
 unfold keyZ u8s
 by_cases hj : j < 16
 · rw [if_pos ⟨by omega, by omega⟩, List.getElem?_map, List.getElem?_map, List.getElem?_append_left (by omega)]; rfl
 · rw [if_neg (by omega), List.getElem?_map, List.getElem?_map, List.getElem?_append_right (by omega), h, List.getElem?_replicate, List.getElem?_replicate]
   by_cases h2 : j < 176
   · rw [if_pos h2, if_pos (by omega)]
   · rw [if_neg h2, if_neg (by omega)]
/-- The row's cells in the block. -/
theorem row_range {w : World} {g : Nat} {t : TypeId} {ks : List Int} (h : Blk w g t (u8s ks)) (r : Nat) : w.rangeAt g (r * 16) (u8s (rowAt ks r)) :=
 blk_range h _ _ fun j u hu => by
  unfold u8s rowAt at hu
  rw [List.getElem?_map, List.getElem?_take] at hu
  unfold u8s
  split at hu
  · rw [List.getElem?_drop] at hu; rw [List.getElem?_map]; exact hu
  · simp at hu
theorem aesKeyF_at (T key : List Int) : aesKeyF T key = (keyR T (keyZ key) 10).2 := rfl
end Go.Proofs.YthdjgebbjogmiaaDoor

namespace Go.Proofs.YthdjgebbjogmiaaDoor
open Go Go.RowKit
set_option maxRecDepth 100000

def subAt (T a : List Int) (j : Nat) : Int := T.getD (a.getD ((j + 4 * (j % 4)) % 16) 0).toNat 0
def subF (T a : List Int) : List Int := (List.range 16).map (subAt T a)
def midF (T a : List Int) (r : Nat) : List Int := if r < 10 then columnsF (subF T a) else subF T a
def blockR (T ks inp : List Int) : Nat → List Int
 | 0 => xorF inp (rowAt ks 0)
 | r + 1 => xorF (midF T (blockR T ks inp r) (r + 1)) (rowAt ks (r + 1))
def blockF (T ks inp : List Int) : List Int := blockR T ks inp 10

theorem subF_len (T a : List Int) : (subF T a).length = 16 := by simp [subF]
theorem subF_get (T a : List Int) (j : Nat) (hj : j < 16) : (subF T a).getD j 0 = subAt T a j := by
 rw [getD_el _ _ (by rw [subF_len]; exact hj)]
 simp [subF]
theorem subF_bytes {T : List Int} (h : Bytes T) (a : List Int) : Bytes (subF T a) := fun x hx => by
 obtain ⟨j, _, rfl⟩ := List.mem_map.1 hx
 exact h.getD _
theorem xorF_bytes {a b : List Int} (ha : a.length = 16) (hb : b.length = 16) (h : Bytes a) (h' : Bytes b) : Bytes (xorF a b) := fun x hx => by
 obtain ⟨j, hj, rfl⟩ := List.getElem_of_mem hx
 rw [xorF_len a b ha hb] at hj
 rw [← getD_el _ _ (by rw [xorF_len a b ha hb]; exact hj), xorF_get a b j (by omega) (by omega)]
 exact x8_byte (h.getD _) (h'.getD _)
theorem midF_len (T a : List Int) (r : Nat) : (midF T a r).length = 16 := by
 unfold midF; split
 · exact columnsF_len _
 · exact subF_len _ _
theorem midF_bytes {T : List Int} (h : Bytes T) (a : List Int) (r : Nat) : Bytes (midF T a r) := by
 unfold midF; split
 · exact columnsF_bytes (subF_bytes h a)
 · exact subF_bytes h a
theorem blockR_ok {T ks inp : List Int} (hT : Bytes T) (hk : ks.length = 176) (bk : Bytes ks) (hi : inp.length = 16) (bi : Bytes inp) (r : Nat) (hr : r ≤ 10) :
 (blockR T ks inp r).length = 16 ∧ Bytes (blockR T ks inp r) := by
 induction r with
 | zero => exact ⟨xorF_len _ _ hi (rowAt_len hk 0 (by omega)), xorF_bytes hi (rowAt_len hk 0 (by omega)) bi (rowAt_bytes bk 0)⟩
 | succ r ih => exact ⟨xorF_len _ _ (midF_len _ _ _) (rowAt_len hk (r + 1) (by omega)), xorF_bytes (midF_len _ _ _) (rowAt_len hk (r + 1) (by omega)) (midF_bytes hT _ _) (rowAt_bytes bk (r + 1))⟩
theorem blockF_len {T ks inp : List Int} (hT : Bytes T) (hk : ks.length = 176) (bk : Bytes ks) (hi : inp.length = 16) (bi : Bytes inp) : (blockF T ks inp).length = 16 := (blockR_ok hT hk bk hi bi 10 (by omega)).1
theorem blockF_bytes {T ks inp : List Int} (hT : Bytes T) (hk : ks.length = 176) (bk : Bytes ks) (hi : inp.length = 16) (bi : Bytes inp) : Bytes (blockF T ks inp) := (blockR_ok hT hk bk hi bi 10 (by omega)).2
end Go.Proofs.YthdjgebbjogmiaaDoor

namespace Go.Proofs.YthdjgebbjogmiaaDoor
open Go Go.RowKit
set_option maxRecDepth 100000

/-- Place j of the counter's block. -/
def ctrAt (n j : Nat) : Int := ((n / 256 ^ (15 - j) % 256 : Nat) : Int)
def ctr (n : Nat) : List Int := (List.range 16).map (ctrAt n)
theorem ctr_len (n : Nat) : (ctr n).length = 16 := by simp [ctr]
theorem ctr_get (n j : Nat) (hj : j < 16) : (ctr n).getD j 0 = ctrAt n j := by
 rw [getD_el _ _ (by rw [ctr_len]; exact hj)]
 simp [ctr]
theorem ctrAt_byte (n j : Nat) : 0 ≤ ctrAt n j ∧ ctrAt n j < 256 := by
 unfold ctrAt
 have := Nat.mod_lt (n / 256 ^ (15 - j)) (show 0 < 256 by omega)
 omega
theorem ctr_bytes (n : Nat) : Bytes (ctr n) := fun x hx => by
 obtain ⟨j, _, rfl⟩ := List.mem_map.1 hx
 exact ctrAt_byte n j
/-- Where streams begin. -/
def atF (at_ : Int) : Nat := (max 0 (min at_ 1073741824)).toNat
theorem atF_le (a : Int) : atF a ≤ 1073741824 := by unfold atF; omega
/-- The stream's byte at place p. -/
def keyAt (T ks : List Int) (p : Nat) : Int := (blockF T ks (ctr (p / 16))).getD (p % 16) 0
def streamAt (T ks : List Int) (a : Nat) (b : List Int) (i : Nat) : Int := X8 (b.getD i 0) (keyAt T ks (a + i))
def streamF (T ks : List Int) (a : Nat) (b : List Int) : List Int := (List.range b.length).map (streamAt T ks a b)
theorem streamF_len (T ks : List Int) (a : Nat) (b : List Int) : (streamF T ks a b).length = b.length := by simp [streamF]
theorem streamF_get (T ks : List Int) (a : Nat) (b : List Int) (i : Nat) (hi : i < b.length) : (streamF T ks a b).getD i 0 = streamAt T ks a b i := by
 rw [getD_el _ _ (by rw [streamF_len]; exact hi)]
 simp [streamF]
theorem keyAt_byte {T ks : List Int} (hT : Bytes T) (hk : ks.length = 176) (bk : Bytes ks) (p : Nat) : 0 ≤ keyAt T ks p ∧ keyAt T ks p < 256 := (blockF_bytes hT hk bk (ctr_len _) (ctr_bytes _)).getD _
theorem streamF_bytes {T ks : List Int} (hT : Bytes T) (hk : ks.length = 176) (bk : Bytes ks) (a : Nat) {b : List Int} (hb : Bytes b) : Bytes (streamF T ks a b) := fun x hx => by
 obtain ⟨j, _, rfl⟩ := List.mem_map.1 hx
 exact x8_byte (hb.getD _) (keyAt_byte hT hk bk _)
end Go.Proofs.YthdjgebbjogmiaaDoor

namespace Go.Proofs.YthdjgebbjogmiaaDoor
open Go Go.RowKit
set_option maxRecDepth 100000

theorem x8_twice {a b : Int} (ha : 0 ≤ a ∧ a < 256) (hb : 0 ≤ b ∧ b < 256) : X8 (X8 a b) b = a := by
 obtain ⟨a, rfl⟩ := Int.eq_ofNat_of_zero_le ha.1
 obtain ⟨b, rfl⟩ := Int.eq_ofNat_of_zero_le hb.1
 have hx : a ^^^ b < 2 ^ 8 := Nat.xor_lt_two_pow (by omega) (by omega)
 rw [x8_nat a b (by omega) (by omega), x8_nat (a ^^^ b) b (by omega) (by omega), Nat.xor_assoc, Nat.xor_self, Nat.xor_zero]
theorem stream_twice {T ks : List Int} (hT : Bytes T) (hk : ks.length = 176) (bk : Bytes ks) (a : Nat) {b : List Int} (hb : Bytes b) : streamF T ks a (streamF T ks a b) = b :=
 ext_getD (by rw [streamF_len, streamF_len]) fun j hj => by
  rw [streamF_len, streamF_len] at hj
  rw [streamF_get _ _ _ _ _ (by rw [streamF_len]; exact hj), streamAt, streamF_get _ _ _ _ _ hj, streamAt]
  exact x8_twice (hb.getD _) (keyAt_byte hT hk bk _)
theorem stream_split (T ks : List Int) (a : Nat) (b : List Int) (n : Nat) (hn : n ≤ b.length) : streamF T ks a (b.take n) ++ streamF T ks (a + n) (b.drop n) = streamF T ks a b := by
 have hl1 : (b.take n).length = n := by rw [List.length_take]; omega
 have hl : (streamF T ks a (b.take n)).length = n := by rw [streamF_len, hl1]
 refine ext_getD (by rw [List.length_append, streamF_len, streamF_len, streamF_len, List.length_take, List.length_drop]; omega) fun j hj => ?_
 rw [List.length_append, hl, streamF_len, List.length_drop] at hj
 rw [streamF_get T ks a b j (by omega)]
 rcases Nat.lt_or_ge j n with h | h
 · rw [List.getD_eq_getElem?_getD, List.getElem?_append_left (by omega), ← List.getD_eq_getElem?_getD, streamF_get _ _ _ _ _ (by omega), streamAt, streamAt]
   congr 1
   rw [List.getD_eq_getElem?_getD, List.getElem?_take, if_pos h, List.getD_eq_getElem?_getD]
 · rw [List.getD_eq_getElem?_getD, List.getElem?_append_right (by omega), ← List.getD_eq_getElem?_getD, hl, streamF_get _ _ _ _ _ (by rw [List.length_drop]; omega), streamAt, streamAt, show a + n + (j - n) = a + j by omega]
   congr 1
   rw [List.getD_eq_getElem?_getD, List.getElem?_drop, show n + (j - n) = j by omega, List.getD_eq_getElem?_getD]
theorem atF_of (n : Nat) (h : n ≤ 1073741824) : atF (n : Int) = n := by unfold atF; omega
end Go.Proofs.YthdjgebbjogmiaaDoor
